/- Every operation of the frame beside the model's. -/
import Derived.Test.YtbliaopehpcpbaaDoorDetI
import Derived.Laws.BytesString
import Derived.Laws.Cover4
import Derived.Laws.RangeString
set_option autoImplicit false
set_option linter.unusedVariables false
set_option linter.unusedSimpArgs false
set_option linter.unusedSectionVars false
namespace Go.Det
open Go.RowKit (Below)

variable [Gl] {P : Program} {base : Nat} {ρ : Ren} {β : Nat → Nat} {md : Md} {h : Heap} {w : World} {α : Type} {r : α} {n : Nat}

/-- What is asked of the calls that the frame answers: the model's call comes to the same. -/
def SoundRec (P : Program) (rc : Rec) : Prop :=
  ∀ md f args h v h', rc md f args h = some (v, h') →
    (∃ fn, P.funcs[f]? = some fn ∧ fn.body.isSome = true ∧ (fn.name == "runtime.NumGoroutine") = false) ∧
    ∀ base ρ β w (cargs : Array Value), HR base ρ β md.lim h w → LRel ρ h.length args cargs.toList →
      Calls P f cargs w fun e w' => ∃ cv ρ', e = .returned cv ∧ HR base ρ' β md.lim h' w' ∧ VRel ρ' h'.length v cv ∧ Ext base md ρ h w ρ' h' w'

def TRel (ρ : Ren) (n : Nat) (t : T) (tmps : Array Value) : Prop := ∀ i, VRel ρ n (t i) (tmps.getD i undef)

theorem ev_rel {t : T} {a : Act} (hT : TRel ρ n t a.tmps) {x : Operand} (hx : okOperand x = true) : VRel ρ n (ev t x) (a.eval x) := by
  cases x with
  | tmp i => exact hT i
  | const v => exact .closed hx
  | global g => simp [okOperand] at hx
  | func f => exact .func _ _ _ _ _ rfl (fun i v c h => by simp at h) rfl (fun i v c h => by simp at h)

theorem evs_rel {t : T} {a : Act} (hT : TRel ρ n t a.tmps) : ∀ {l : List Operand}, l.all okOperand = true → LRel ρ n (l.map (ev t)) (l.map a.eval) := by
  intro l
  induction l with
  | nil => intro _; exact LRel.nil
  | cons x l ih =>
    intro hl
    simp only [List.all_cons, Bool.and_eq_true] at hl
    exact LRel.cons (ev_rel hT hl.1) (ih hl.2)

theorem parts_rel {t : T} {a : Act} (hT : TRel ρ n t a.tmps) {l : List (Nat × Operand)} (hl : (l.map (·.2)).all okOperand = true) :
    PRel ρ n (l.map fun p => (p.1, ev t p.2)) (l.map fun p => (p.1, a.eval p.2)) := by
  refine ⟨by simp, fun j p q h1 h2 => ?_⟩
  simp only [List.getElem?_map, Option.map_eq_some_iff] at h1 h2
  obtain ⟨x, e1, rfl⟩ := h1
  obtain ⟨y, e2, rfl⟩ := h2
  rw [e1] at e2; cases e2
  exact ⟨rfl, ev_rel hT (List.all_eq_true.1 hl _ (List.mem_map.2 ⟨x, List.mem_of_getElem? e1, rfl⟩))⟩

/-- What follows an operation. -/
def Cont (base : Nat) (md : Md) (ρ : Ren) (β : Nat → Nat) (h : Heap) (w : World) (k : Value → Heap → Option α) (r : α) (K : Value → World → Prop) : Prop :=
  ∀ v cv ρ' h' w', k v h' = some r → HR base ρ' β md.lim h' w' → VRel ρ' h'.length v cv → Ext base md ρ h w ρ' h' w' → K cv w'

theorem wp_value {o : Oper} {a : Act} {K : Act → World → Prop} {Q : Exit → Act → World → Prop} {cv : Value} {w' : World} (h : (execOp a.eval o).run P w = .ok (.value cv) w') (hK : K (a.put o.dst cv) w') :
    o.wp P a w K Q := by
  unfold Oper.wp; rw [h]; exact hK

theorem eff_wp {o : Oper} {a : Act} {K : Act → World → Prop} {Q : Exit → Act → World → Prop} {s : Sem Value} {k : Value → Heap → Option α} (he : execOp a.eval o = (do pure (.value (← s))))
    (he' : Eff P base md ρ β h w s k r) (hK : Cont base md ρ β h w k r (fun cv w' => K (a.put o.dst cv) w')) : o.wp P a w K Q := by
  obtain ⟨v, cv, ρ', h', w', h1, h2, h3, h4, h5⟩ := he'
  exact wp_value (cv := cv) (w' := w') (by rw [he]; simp [h2]) (hK v cv ρ' h' w' h1 h3 h4 h5)

theorem val_wp {o : Oper} {a : Act} {K : Act → World → Prop} {Q : Exit → Act → World → Prop} {s : Sem Value} {k : Value → Heap → Option α} (H : HR base ρ β md.lim h w)
    (he : execOp a.eval o = (do pure (.value (← s)))) (hv : Val P ρ h.length w s (fun v => k v h) r) (hK : Cont base md ρ β h w k r (fun cv w' => K (a.put o.dst cv) w')) : o.wp P a w K Q :=
  eff_wp he (hv.eff H) hK

theorem call_wp {o : Oper} {a : Act} {K : Act → World → Prop} {Q : Exit → Act → World → Prop} {rc : Rec} (hrc : SoundRec P rc) {g : FuncId} {args : List Value} {cargs : Array Value} {v : Value} {h' : Heap}
    {k : Value → Heap → Option α} (H : HR base ρ β md.lim h w) (hl : LRel ρ h.length args cargs.toList) (hg : rc md g args h = some (v, h')) (hk : k v h' = some r)
    (he : (execOp a.eval o).run P w = (callFunc g cargs).run P w) (hK : Cont base md ρ β h w k r (fun cv w' => K (a.put o.dst cv) w')) : o.wp P a w K Q := by
  obtain ⟨⟨fn, f1, f2, f3⟩, hc⟩ := hrc md g args h v h' hg
  have hrun : (execOp a.eval o).run P w = .ok (.enter g cargs) w := by
    rw [he]
    have hb : fn.body.isNone = false := by cases hfb : fn.body <;> simp [hfb] at f2 ⊢
    simp only [callFunc, Sem.run_bind, run_program, Result.andThen_ok, f1, f3, hb, Bool.false_eq_true, if_false, Sem.run_pure]
  unfold Oper.wp
  rw [hrun, Oper.upon_enter]
  refine (hc base ρ β w cargs H hl).mono fun e w' he' => ?_
  obtain ⟨cv, ρ', rfl, h1, h2, h3⟩ := he'
  exact hK v cv ρ' h' w' hk h1 h2 h3

theorem method_sound {ty : TypeId} {v cv x : Value} {name : String} {g : FuncId} (hv : VRel ρ n v cv) (hm : aMethod P ty v name = some (g, x)) (w : World) (fuel : Nat) :
    ∃ cx, (method (fuel + 1) ty cv name).run P w = .ok (g, cx) w ∧ VRel ρ n x cx := by
  unfold aMethod at hm
  split at hm
  · rename_i i hi
    split at hm
    · rename_i m hf
      split at hm
      · rename_i f hp hfn
        split at hm
        · cases hm
        · rename_i d hne hu
          cases hm
          refine ⟨cv, ?_, hv⟩
          have : ∀ e, d ≠ .pointer e := fun e he => hne e (by rw [he])
          simp only [method, Sem.run_bind, run_typeInfo' hi, Result.andThen_ok, hf, hp, follow, Sem.run_pure, hfn, receiverAt, run_underlying hu]
          cases d <;> first | exact absurd rfl (this _) | simp [Place.get]
        · cases hm
      · rename_i f hp hfn
        split at hm
        · rename_i e hu
          cases hm
          refine ⟨cv, ?_, hv⟩
          simp [method, run_typeInfo' hi, hf, hp, follow, hfn, receiverAt, run_underlying hu, Place.get]
        · cases hm
      · cases hm
    · cases hm
  · cases hm

theorem ahead_sound {ty : TypeId} {v cv x : Value} {name : String} {g : FuncId} (hv : VRel ρ n v cv) (hm : aMethod P ty v name = some (g, x)) (w : World) (fuel : Nat) :
    (nilAhead (fuel + 1) ty cv name).run P w = .ok (some false) w := by
  unfold aMethod at hm
  split at hm
  · rename_i i hi
    split at hm
    · rename_i m hf
      split at hm
      · rename_i f hp hfn
        split at hm
        · cases hm
        · rename_i d hne hu
          have : ∀ e, d ≠ .pointer e := fun e he => hne e (by rw [he])
          simp only [nilAhead, Sem.run_bind, run_typeInfo' hi, Result.andThen_ok, hf, hp, followBlind, Sem.run_pure, hfn, run_underlying hu]
          cases d <;> first | exact absurd rfl (this _) | simp
        · cases hm
      · rename_i f hp hfn
        split at hm
        · rename_i e hu
          simp [nilAhead, run_typeInfo' hi, hf, hp, followBlind, hfn, run_underlying hu]
        · cases hm
      · cases hm
    · cases hm
  · cases hm

theorem LRel.toArray {l l' : List Value} (h : LRel ρ n l l') : LRel ρ n l l'.toArray.toList := h

/-! ### Maps -/

theorem VRel.map_inv {b : Nat} {c : Value} (h : VRel ρ n (.map (some b)) c) : b < n ∧ c = .map (some (ρ b).blk) := by
  cases h with
  | sc _ h => simp [scalar] at h
  | map b h => exact ⟨h, rfl⟩
/-- What a type of keys is. -/
def KTy (P : Program) (key : TypeId) : KT → Prop
  | .one kd => P.underlying key = some (.int kd)
  | .two kd => ∃ e j, P.underlying key = some (.array 2 e) ∧ P.underlying e = some (.int kd) ∧ P.info? e = some j ∧ j.size = 1 ∧ P.eqGuardType P.depth key = false ∧ kindsOf P 8 key = some [.i, .i]
theorem mapTy_some {ty : TypeId} {kd : KT} {elem : TypeId} (h : mapTy P ty = some (kd, elem)) : ∃ key, P.underlying ty = some (.map key elem) ∧ KTy P key kd := by
  unfold mapTy at h
  split at h
  · rename_i key el hu
    split at h
    · rename_i kd' hk
      cases h
      exact ⟨key, hu, hk⟩
    · rename_i e hk
      split at h
      · rename_i kd' j h1 h2
        split at h
        · rename_i hc
          cases h
          refine ⟨key, hu, e, j, hk, h1, h2, hc.1, hc.2.1, ?_⟩
          have := hc.2.2
          unfold isII at this
          split at this
          · assumption
          · cases this
        · cases h
      · cases h
    · cases h
  · cases h
theorem keyOf_some {kt : KT} {v : Value} {l : MK} (h : keyOf kt v = some l) : v = keyV kt l ∧ gkey kt l = true := by
  unfold keyOf at h
  split at h
  · split at h
    · rename_i e; cases h; subst e; exact ⟨rfl, rfl⟩
    · cases h
  · rename_i kd cs
    split at h
    · rename_i k1 a k2 b he
      split at h
      · rename_i e
        cases h
        obtain ⟨e1, e2⟩ := e
        refine ⟨?_, rfl⟩
        have : cs = #[.int k1 a, .int k2 b] := by apply Array.ext'; simpa using he
        rw [this, e1, e2]; rfl
      · cases h
    · cases h
  · cases h
theorem gkey_one {kd : IntKind} {l : MK} (h : gkey (.one kd) l = true) : ∃ x, l = [x] := by
  match l, h with
  | [x], _ => exact ⟨x, rfl⟩
theorem gkey_two {kd : IntKind} {l : MK} (h : gkey (.two kd) l = true) : ∃ x y, l = [x, y] := by
  match l, h with
  | [x, y], _ => exact ⟨x, y, rfl⟩
theorem keyV_rel {kt : KT} {l : MK} {n : Nat} {c : Value} (hg : gkey kt l = true) (h : VRel ρ n (keyV kt l) c) : c = keyV kt l := by
  cases kt with
  | one kd => obtain ⟨x, rfl⟩ := gkey_one hg; exact h.int_inv
  | two kd =>
    obtain ⟨x, y, rfl⟩ := gkey_two hg
    simp only [keyV] at h ⊢
    obtain ⟨ccs, rfl, hl⟩ := h.agg_inv
    · have l1 := hl.1
      simp at l1
      have e0 : ccs[0]? = some (.int kd x) := by
        obtain ⟨c, g1, g2⟩ := hl.get (i := 0) (v := .int kd x) rfl
        have := g2.int_inv
        subst this
        simpa using g1
      have e1 : ccs[1]? = some (.int kd y) := by
        obtain ⟨c, g1, g2⟩ := hl.get (i := 1) (v := .int kd y) rfl
        have := g2.int_inv
        subst this
        simpa using g1
      congr 1
      apply Array.ext'
      apply List.ext_getElem?
      intro i
      match i with
      | 0 => simpa using e0
      | 1 => simpa using e1
      | i + 2 => rw [List.getElem?_eq_none (by simp; omega), List.getElem?_eq_none (by simp)]
theorem keyV_inj {kt : KT} {l l' : MK} (h : gkey kt l = true) (h' : gkey kt l' = true) (e : keyV kt l = keyV kt l') : l = l' := by
  cases kt with
  | one kd =>
    obtain ⟨x, rfl⟩ := gkey_one h
    obtain ⟨y, rfl⟩ := gkey_one h'
    simp only [keyV] at e
    cases e; rfl
  | two kd =>
    obtain ⟨x, y, rfl⟩ := gkey_two h
    obtain ⟨x', y', rfl⟩ := gkey_two h'
    simp only [keyV] at e
    cases e; rfl
theorem run_checkKeyT {key : TypeId} {kt : KT} {l : MK} (hk : KTy P key kt) (hg : gkey kt l = true) (e : Bool) (n : Nat) (w : World) : (Instr.checkKey e (n + 2) key (keyV kt l)).run P w = .ok () w := by
  cases kt with
  | one kd => obtain ⟨x, rfl⟩ := gkey_one hg; exact MapKept.run_checkKey (d := .int kd) (k := .int kd x) hk rfl e (n + 1)
  | two kd =>
    obtain ⟨x, y, rfl⟩ := gkey_two hg
    obtain ⟨el, j, h1, h2, h3, h4, _, _⟩ := hk
    have ck : ∀ z : Int, (Instr.checkKey e (n + 1) el (.int kd z)).run P w = .ok () w := fun z => MapKept.run_checkKey (d := .int kd) (k := .int kd z) h2 rfl e n
    have ag : (isAgg el).run P w = .ok false w := by rw [run_isAgg h2]; rfl
    have pt : ∀ (i : Nat) (v : Value), (#[Value.int kd x, .int kd y] : Array Value)[i]? = some v → (part el #[Value.int kd x, .int kd y] i).run P w = .ok v w := fun i v hv => by simp only [part, Sem.run_bind, ag, Result.andThen_ok, Bool.false_eq_true, if_false, hv, Sem.run_pure]
    have p0 := pt 0 _ rfl
    have p1 := pt 1 _ rfl
    have so : (sizeOf el).run P w = .ok 1 w := by rw [run_sizeOf' h3, h4]
    unfold Instr.checkKey
    simp only [Sem.run_bind, run_underlying h1, Result.andThen_ok, keyV]
    rw [Std.Legacy.Range.forIn_eq_forIn_range']
    simp [Std.Legacy.Range.size, List.range', Sem.run_bind, so, p0, p1, ck, Sem.run_pure]
theorem same_key {key : TypeId} {kt : KT} {l l' : MK} (hk : KTy P key kt) (h : gkey kt l = true) (h' : gkey kt l' = true) (w : World) (hu : ∀ kd, kt ≠ .one kd) : (Op.equal key (keyV kt l) (keyV kt l')).run P w = .ok (decide (l = l')) w := by
  cases kt with
  | one kd => exact absurd rfl (hu kd)
  | two kd =>
    obtain ⟨x, y, rfl⟩ := gkey_two h
    obtain ⟨x', y', rfl⟩ := gkey_two h'
    obtain ⟨el, j, h1, h2, h3, h4, h5, h6⟩ := hk
    have r : ∀ a b : Int, VRel (fun _ => ⟨0, 0, 0⟩) 0 (keyV (.two kd) [a, b]) (keyV (.two kd) [a, b]) := fun a b => by
      refine .agg _ _ rfl fun i v c h1 h2 => ?_
      rw [h1] at h2
      cases h2
      have : v = .int kd a ∨ v = .int kd b := by
        have := Array.mem_of_getElem? h1
        simpa using this
      rcases this with e | e <;> subst e <;> exact .sc _ rfl
    refine eq_sound (r x y) (r x' y') ?_ w
    simp only [keyV, aEq, h5, h1, isAggD, h6, cond_true, cond_false]
    simp [cellsEq]
    by_cases e1 : x = x' <;> by_cases e2 : y = y' <;> simp [e1, e2, beq_false_of_ne]
theorem zeroV_some {ty : TypeId} {z : Value} (h : zeroV P ty = some z) : (∃ i, P.info? ty = some i ∧ i.zero = some z) ∧ closed z = true := by
  unfold zeroV at h
  split at h
  · rename_i i hi
    split at h
    · rename_i z' hz
      split at h
      · cases h; exact ⟨⟨i, hi, hz⟩, by assumption⟩
      · cases h
    · cases h
  · cases h
/-- What the model's search finds, beside the frame's. -/
theorem list_get (kt : KT) {x : MK} (hx : gkey kt x = true) (f : List MapEntry → Nat → Option (Nat × Value)) (f0 : ∀ i, f [] i = none) (f1 : ∀ (e : MapEntry) (l : List MapEntry) (y : MK) (i : Nat), e.key = keyV kt y → gkey kt y = true → f (e :: l) i = if x = y then some (i, e.val) else f l (i + 1)) :
    ∀ (l : List MapEntry) (es : List (MK × Value)) (i : Nat), l.map (fun e => e.key) = es.map (fun p => keyV kt p.1) → (∀ p ∈ es, gkey kt p.1 = true) →
    (f l i = none ∧ mGet es x = none ∧ (∀ v, mPut es x v = es ++ [(x, v)]) ∧ mDel es x = es) ∨
    ∃ j e u, f l i = some (i + j, e.val) ∧ mGet es x = some u ∧ l[j]? = some e ∧ es[j]? = some (x, u) ∧ e.key = keyV kt x ∧ (∀ u, mPut es x u = es.set j (x, u)) ∧ mDel es x = es.eraseIdx j := by
  intro l
  induction l with
  | nil =>
    intro es i h _
    cases es with
    | nil => exact .inl ⟨f0 i, rfl, fun _ => rfl, rfl⟩
    | cons p es => simp at h
  | cons e l ih =>
    intro es i h hg
    cases es with
    | nil => simp at h
    | cons p es =>
      simp only [List.map_cons, List.cons.injEq] at h
      obtain ⟨hk, ht⟩ := h
      obtain ⟨a, u⟩ := p
      simp only at hk
      have ga : gkey kt a = true := hg (a, u) (by simp)
      have e1 := f1 e l a i hk ga
      by_cases hxa : a = x
      · subst hxa
        right
        refine ⟨0, e, u, ?_, by simp [mGet], rfl, rfl, hk, fun u' => by simp [mPut], by simp [mDel]⟩
        rw [e1, if_pos rfl]; rfl
      · have hne : ¬ x = a := fun q => hxa q.symm
        rw [if_neg hne] at e1
        rcases ih es (i + 1) ht (fun p hp => hg p (by simp [hp])) with ⟨h1, h2, h3, h4⟩ | ⟨j, e', v, h1, h2, h3, h4, h5, h6, h7⟩
        · left
          exact ⟨by rw [e1, h1], by simp [mGet, hxa, h2], fun v => by simp [mPut, hxa, h3], by simp [mDel, hxa, h4]⟩
        · right
          refine ⟨j + 1, e', v, by rw [e1, h1]; congr 2; omega, by simp [mGet, hxa, h2], by simpa using h3, by simpa using h4, h5, fun u' => by simp [mPut, hxa, h6], by simp [mDel, hxa, h7]⟩
theorem findKey_get {key : TypeId} {kt : KT} (hk : KTy P key kt) {x : MK} (hx : gkey kt x = true) (l : List MapEntry) (es : List (MK × Value)) (h : l.map (fun e => e.key) = es.map (fun p => keyV kt p.1)) (hg : ∀ p ∈ es, gkey kt p.1 = true) :
    ((∀ w, (Instr.findKey key (keyV kt x) l).run P w = .ok none w) ∧ mGet es x = none ∧ (∀ v, mPut es x v = es ++ [(x, v)]) ∧ mDel es x = es) ∨
    ∃ j e u, (∀ w, (Instr.findKey key (keyV kt x) l).run P w = .ok (some (j, e.val)) w) ∧ mGet es x = some u ∧ l[j]? = some e ∧ es[j]? = some (x, u) ∧ e.key = keyV kt x ∧ (∀ u, mPut es x u = es.set j (x, u)) ∧ mDel es x = es.eraseIdx j := by
  obtain ⟨f, f0, f1⟩ : ∃ f : List MapEntry → Nat → Option (Nat × Value), (∀ i, f [] i = none) ∧ ∀ (e : MapEntry) (l : List MapEntry) (y : MK) (i : Nat), e.key = keyV kt y → gkey kt y = true → f (e :: l) i = if x = y then some (i, e.val) else f l (i + 1) := by
    refine ⟨fun l i => List.rec (motive := fun _ => Nat → Option (Nat × Value)) (fun _ => none) (fun e _ ih i => open Classical in if e.key = keyV kt x then some (i, e.val) else ih (i + 1)) l i, fun i => rfl, fun e l y i he hy => ?_⟩
    by_cases hxy : x = y
    · subst hxy; simp only [he, if_true]
    · have : ¬ e.key = keyV kt x := fun q => hxy (keyV_inj hx hy (q.symm.trans he))
      simp only [this, hxy, if_false]
  have run : ∀ w, (Instr.findKey key (keyV kt x) l).run P w = .ok (f l 0) w := by
    intro w
    cases kt with
    | one kd =>
      obtain ⟨x', rfl⟩ := gkey_one hx
      have now : ∀ (l : List MapEntry) (es : List (MK × Value)) (i : Nat), l.map (fun e => e.key) = es.map (fun p => keyV (.one kd) p.1) → (∀ p ∈ es, gkey (.one kd) p.1 = true) → Instr.findNow (.int kd) (.int kd x') l i = some (f l i) := by
        intro l
        induction l with
        | nil => intro es i _ _; rw [f0]; rfl
        | cons e l ih =>
          intro es i h hg
          cases es with
          | nil => simp at h
          | cons p es =>
            simp only [List.map_cons, List.cons.injEq] at h
            obtain ⟨hk', ht⟩ := h
            have gp := hg p (by simp)
            obtain ⟨y, hy⟩ := gkey_one gp
            rw [f1 e l p.1 i hk' gp, hy]
            have hsame : Instr.sameNow (.int kd) (.int kd x') e.key = some (x' == y) := by rw [hk', hy]; simp [Instr.sameNow, keyV]
            by_cases hxy : x' = y
            · subst hxy; simp [Instr.findNow, hsame]
            · have hb : (x' == y) = false := by simp [hxy]
              have hne : ¬ ([x'] : MK) = [y] := by simp [hxy]
              rw [if_neg hne]
              simp [Instr.findNow, hsame, hb, ih es (i + 1) ht (fun p hp => hg p (by simp [hp]))]
      exact MapKept.run_findKey hk (now l es 0 h hg)
    | two kd =>
      have ask : ∀ (l : List MapEntry) (es : List (MK × Value)) (i : Nat), l.map (fun e => e.key) = es.map (fun p => keyV (.two kd) p.1) → (∀ p ∈ es, gkey (.two kd) p.1 = true) → (Instr.findAsking key (keyV (.two kd) x) l i).run P w = .ok (f l i) w := by
        intro l
        induction l with
        | nil => intro es i _ _; rw [f0]; simp [Instr.findAsking]
        | cons e l ih =>
          intro es i h hg
          cases es with
          | nil => simp at h
          | cons p es =>
            simp only [List.map_cons, List.cons.injEq] at h
            obtain ⟨hk', ht⟩ := h
            have gp := hg p (by simp)
            rw [f1 e l p.1 i hk' gp]
            have sm := same_key hk hx gp w (fun kd' q => by cases q)
            unfold Instr.findAsking
            simp only [Sem.run_bind, hk', sm, Result.andThen_ok]
            by_cases hxy : x = p.1
            · simp [hxy]
            · simp [hxy, ih es (i + 1) ht (fun p hp => hg p (by simp [hp]))]
      obtain ⟨el, j, h1, _⟩ := hk
      unfold Instr.findKey
      simp only [Sem.run_bind, run_underlying h1, Result.andThen_ok]
      cases l with
      | nil => rw [f0]; simp [Instr.findNow]
      | cons e l =>
        have : Instr.findNow (.array 2 el) (keyV (.two kd) x) (e :: l) 0 = none := by
          obtain ⟨a, b, rfl⟩ := gkey_two hx
          simp [Instr.findNow, Instr.sameNow, keyV]
        rw [this]
        exact ask (e :: l) es 0 h hg
  rcases list_get kt hx f f0 f1 l es 0 h hg with ⟨h1, h2, h3, h4⟩ | ⟨j, e, v, h1, h2, h3, h4, h5, h6, h7⟩
  · exact .inl ⟨fun w => by rw [run, h1], h2, h3, h4⟩
  · exact .inr ⟨j, e, v, fun w => by rw [run, h1, Nat.zero_add], h2, h3, h4, h5, h6, h7⟩
theorem makeMap_sound {ty : TypeId} {k : Value → Heap → Option α} (H : HR base ρ β md.lim h w) (hk : aMakeMap P ty h k = some r) : Eff P base md ρ β h w (Instr.makeMap ty none) k r := by
  unfold aMakeMap at hk
  split at hk
  · rename_i kd elem hm
    obtain ⟨H', E'⟩ := H.allocM kd
    refine ⟨_, .map (some w.heap.size), _, _, _, hk, rfl, H', ?_, E' md⟩
    have := VRel.map (ρ := fun b => if b = h.length then (⟨w.heap.size, 0, 0⟩ : Loc) else ρ b) (n := (h ++ [Blk.mp kd []]).length) h.length (by simp)
    simpa using this
  · cases hk
theorem lookup_sound {ty : TypeId} {x i cx ci : Value} {ok : Bool} {k : Value → Option α} (H : HR base ρ β md.lim h w) (hx : VRel ρ h.length x cx) (hi : VRel ρ h.length i ci) (hk : aLookup P ty x i ok h k = some r) :
    Val P ρ h.length w (Instr.lookup ty cx ci ok) k r := by
  unfold aLookup at hk
  split at hk
  · rename_i kt elem b hm
    obtain ⟨_, rfl⟩ := hx.map_inv
    obtain ⟨key, hu, hkey⟩ := mapTy_some hm
    split at hk
    · rename_i n hn
      obtain ⟨rfl, hgn⟩ := keyOf_some hn
      have e2 := keyV_rel hgn hi
      subst e2
      split at hk
      · rename_i kt' es hb
        split at hk
        · rename_i hc
          subst hc
          obtain ⟨_, es', cl, g2, g3, g5, g4⟩ := H.mp.mp b _ es hb
          have ck := fun e => run_checkKeyT (P := P) hkey hgn e 9998 w
          rcases findKey_get hkey hgn es'.toList es g3 g4 with ⟨h1, h2, _⟩ | ⟨j, e, v, h1, h2, h3, h4, _⟩
          · rw [h2] at hk
            simp only at hk
            split at hk
            · rename_i z hz
              obtain ⟨⟨inf, i1, i2⟩, hs⟩ := zeroV_some hz
              refine ⟨_, bif ok then .tuple #[z, .bool false] else z, hk, ?_, ?_⟩
              · simp only [Instr.lookup, Sem.run_bind, run_underlying hu, Result.andThen_ok, MapKept.run_getObj_map g2, Sem.run_pure, ck, h1, run_zeroValue i1 i2]
                cases ok <;> rfl
              · cases ok
                · exact VRel.closed hs
                · exact LRel.tuple (l := [z, .bool false]) (l' := [z, .bool false]) (LRel.cons (VRel.closed hs) (LRel.cons (.sc _ rfl) LRel.nil))
            · cases hk
          · rw [h2] at hk
            simp only at hk
            have hs : VRel ρ h.length v e.val := (g5.2 j v e.val (by simp [h4]) (by rw [List.getElem?_map, h3]; rfl)).mono (H.bd_le b) fun _ _ => rfl
            refine ⟨_, bif ok then .tuple #[e.val, .bool true] else e.val, hk, ?_, ?_⟩
            · simp only [Instr.lookup, Sem.run_bind, run_underlying hu, Result.andThen_ok, MapKept.run_getObj_map g2, Sem.run_pure, ck, h1]
              cases ok <;> rfl
            · cases ok
              · exact hs
              · exact LRel.tuple (l := [v, .bool true]) (l' := [e.val, .bool true]) (LRel.cons hs (LRel.cons (.sc _ rfl) LRel.nil))
        · cases hk
      · cases hk
    · cases hk
  · cases hk
theorem mapPut_sound {ty : TypeId} {x i v cx ci cv : Value} {k : Heap → Option α} (H : HR base ρ β md.lim h w) (hx : VRel ρ h.length x cx) (hi : VRel ρ h.length i ci) (hv : VRel ρ h.length v cv) (hk : aMapPut P md ty x i v h k = some r) :
    ∃ h' w', k h' = some r ∧ (Instr.mapUpdate ty cx ci cv).run P w = .ok () w' ∧ HR base ρ β md.lim h' w' ∧ Ext base md ρ h w ρ h' w' := by
  unfold aMapPut at hk
  split at hk
  · rename_i kt elem b hm
    obtain ⟨_, rfl⟩ := hx.map_inv
    obtain ⟨key, hu, hkey⟩ := mapTy_some hm
    split at hk
    · rename_i n hn
      obtain ⟨rfl, hgn⟩ := keyOf_some hn
      have e2 := keyV_rel hgn hi
      subst e2
      split at hk
      · rename_i kt' es hb
        split at hk
        · rename_i hc
          obtain ⟨rfl, hro, hs⟩ := hc
          have hvv : VRel ρ (bd β md.lim h b) v cv := by
            rcases hs with hs | hs
            · have e : bd β md.lim h b = h.length := if_neg (by omega)
              rw [e]; exact hv
            · exact hv.shrink (VRel.closed (ρ := ρ) hs)
          obtain ⟨_, es', cl, g2, g3, g5, g4⟩ := H.mp.mp b _ es hb
          have ck := fun e => run_checkKeyT (P := P) hkey hgn e 9998 w
          rcases findKey_get hkey hgn es'.toList es g3 g4 with ⟨h1, h2, h5, _⟩ | ⟨j, e, u, h1, h2, h3, h4, h6, h5, _⟩
          · obtain ⟨H', E'⟩ := H.setM (es' := es'.push { key := keyV kt' n, val := cv, born := cl }) (es2 := mPut es n v) (cl := cl + 1) hb (by rw [h5]; simp [g3]) (by
              rw [h5]; simp only [Array.toList_push, List.map_append]
              exact g5.append (LRel.cons hvv LRel.nil)) (by
              rw [h5]; intro p hp
              rcases List.mem_append.1 hp with h | h
              · exact g4 p h
              · simp only [List.mem_singleton] at h; subst h; exact hgn)
            refine ⟨_, _, hk, ?_, H', E' md hro⟩
            simp only [Instr.mapUpdate, Sem.run_bind, run_underlying hu, Result.andThen_ok, MapKept.run_getObj_map g2, ck, h1, MapKept.run_setObj_map _ g2]
          · have hj : es'[j]? = some e := by simpa using h3
            have hjl : j < es.length := (List.getElem?_eq_some_iff.1 h4).1
            have hsl : (es'.modify j fun e => { e with key := keyV kt' n, val := cv }).toList = es'.toList.set j { e with key := keyV kt' n, val := cv } := by
              apply List.ext_getElem?
              intro m
              simp only [Array.getElem?_toList, Array.getElem?_modify, List.getElem?_set]
              by_cases hmj : j = m
              · subst hmj
                have : j < es'.size := (Array.getElem?_eq_some_iff.1 hj).1
                simp [hj]; exact this
              · simp only [hmj, if_false]
            obtain ⟨H', E'⟩ := H.setM (es' := es'.modify j fun e => { e with key := keyV kt' n, val := cv }) (es2 := mPut es n v) (cl := cl) hb (by
                rw [h5, hsl, List.map_set, List.map_set, g3]) (by
                rw [h5, hsl, List.map_set, List.map_set]
                exact g5.set j hvv) (by
              rw [h5]; intro p hp
              rcases List.mem_or_eq_of_mem_set hp with h | h
              · exact g4 p h
              · subst h; exact hgn)
            refine ⟨_, _, hk, ?_, H', E' md hro⟩
            have hkey' : (((es'[j]?).map (·.key)).getD (keyV kt' n)) = keyV kt' n := by rw [hj]; simp [h6]
            have hst : (Instr.keyThatStays (keyV kt' n) (keyV kt' n)).run P w = .ok (keyV kt' n) w := by
              cases kt' with
              | one kd => obtain ⟨a, rfl⟩ := gkey_one hgn; simp [Instr.keyThatStays, Instr.sameBits, keyV]
              | two kd => obtain ⟨a, b, rfl⟩ := gkey_two hgn; simp [Instr.keyThatStays, Instr.sameBits, keyV]
            simp only [Instr.mapUpdate, Sem.run_bind, run_underlying hu, Result.andThen_ok, MapKept.run_getObj_map g2, ck, h1, hkey', hst, MapKept.run_setObj_map _ g2]
        · cases hk
      · cases hk
    · cases hk
  · cases hk

theorem LRel.eraseIdx {l l' : List Value} (j : Nat) (h : LRel ρ n l l') : LRel ρ n (l.eraseIdx j) (l'.eraseIdx j) := by
  rw [List.eraseIdx_eq_take_drop_succ, List.eraseIdx_eq_take_drop_succ]
  exact (h.take j).append (h.drop (j + 1))
theorem map_eraseIdx' {α β : Type} (f : α → β) (l : List α) (j : Nat) : (l.eraseIdx j).map f = (l.map f).eraseIdx j := by
  rw [List.eraseIdx_eq_take_drop_succ, List.eraseIdx_eq_take_drop_succ, List.map_append, List.map_take, List.map_drop]
theorem mapDel_sound {ty : TypeId} {x i cx ci : Value} {k : Heap → Option α} (H : HR base ρ β md.lim h w) (hx : VRel ρ h.length x cx) (hi : VRel ρ h.length i ci) {tys : Array TypeId} (ht : tys[0]? = some ty) (hk : aMapDel P md ty x i h k = some r) (o : TypeId) :
    ∃ h' w', k h' = some r ∧ (Builtin.delete_ tys o #[cx, ci]).run P w = .ok (.tuple #[]) w' ∧ HR base ρ β md.lim h' w' ∧ Ext base md ρ h w ρ h' w' := by
  unfold aMapDel at hk
  split at hk
  · rename_i kt elem b hm
    obtain ⟨_, rfl⟩ := hx.map_inv
    obtain ⟨key, hu, hkey⟩ := mapTy_some hm
    split at hk
    · rename_i n hn
      obtain ⟨rfl, hgn⟩ := keyOf_some hn
      have e2 := keyV_rel hgn hi
      subst e2
      split at hk
      · rename_i kt' es hb
        split at hk
        · rename_i hc
          obtain ⟨rfl, hro⟩ := hc
          obtain ⟨_, es', cl, g2, g3, g5, g4⟩ := H.mp.mp b _ es hb
          have ck := fun e => run_checkKeyT (P := P) hkey hgn e 9998 w
          rcases findKey_get hkey hgn es'.toList es g3 g4 with ⟨h1, h2, _, h5⟩ | ⟨j, e, u, h1, h2, h3, h4, h6, _, h5⟩
          · obtain ⟨H', E'⟩ := H.setM (es' := es') (es2 := mDel es n) (cl := cl) hb (by rw [h5]; exact g3) (by rw [h5]; exact g5) (by rw [h5]; exact g4)
            refine ⟨_, _, hk, ?_, H', E' md hro⟩
            simp only [Builtin.delete_, ht, show (#[Value.map (some (ρ b).blk), keyV kt' n] : Array Value)[0]? = some (Value.map (some (ρ b).blk)) from rfl, show (#[Value.map (some (ρ b).blk), keyV kt' n] : Array Value)[1]? = some (keyV kt' n) from rfl, Sem.run_bind, run_underlying hu, Result.andThen_ok, MapKept.run_getObj_map g2, ck, h1, MapKept.run_setObj_map _ g2, Sem.run_pure]
          · have hj : j < es'.size := by simpa using (List.getElem?_eq_some_iff.1 h3).1
            have hsl : (es'.eraseIdxIfInBounds j).toList = es'.toList.eraseIdx j := by simp [Array.eraseIdxIfInBounds, hj]
            obtain ⟨H', E'⟩ := H.setM (es' := es'.eraseIdxIfInBounds j) (es2 := mDel es n) (cl := cl) hb (by
                rw [h5, hsl, map_eraseIdx', map_eraseIdx', g3]) (by
                rw [h5, hsl, map_eraseIdx', map_eraseIdx']
                exact g5.eraseIdx j) (by
              rw [h5]; intro p hp
              exact g4 p (List.mem_of_mem_eraseIdx hp))
            refine ⟨_, _, hk, ?_, H', E' md hro⟩
            simp only [Builtin.delete_, ht, show (#[Value.map (some (ρ b).blk), keyV kt' n] : Array Value)[0]? = some (Value.map (some (ρ b).blk)) from rfl, show (#[Value.map (some (ρ b).blk), keyV kt' n] : Array Value)[1]? = some (keyV kt' n) from rfl, Sem.run_bind, run_underlying hu, Result.andThen_ok, MapKept.run_getObj_map g2, ck, h1, MapKept.run_setObj_map _ g2, Sem.run_pure]
        · cases hk
      · cases hk
    · cases hk
  · cases hk
theorem lenM_sound {tys : Array TypeId} {x cx : Value} {k : Value → Heap → Option α} (H : HR base ρ β md.lim h w) (hm : lenOfMap P tys = true) (hx : VRel ρ h.length x cx) (hk : aLenM x h k = some r) (t : TypeId) :
    Val P ρ h.length w (Builtin.len_ tys t #[cx]) (fun v => k v h) r := by
  unfold lenOfMap at hm
  split at hm
  · rename_i ty hty
    split at hm
    · rename_i key elem hu
      unfold aLenM at hk
      split at hk
      · rename_i b
        obtain ⟨_, rfl⟩ := hx.map_inv
        split at hk
        · rename_i kd es hb
          obtain ⟨_, es', cl, g2, g3, _⟩ := H.mp.mp b kd es hb
          have hl : es'.size = es.length := by have := congrArg List.length g3; simpa using this
          refine ⟨_, .int .i64 es.length, hk, ?_, .sc _ rfl⟩
          simp only [Builtin.len_, hty, show (#[Value.map (some (ρ b).blk)] : Array Value)[0]? = some (Value.map (some (ρ b).blk)) from rfl, Sem.run_bind, run_underlying hu, Result.andThen_ok, MapKept.run_getObj_map g2, Sem.run_pure, goInt, hl]
        · cases hk
      · cases hk
    · cases hm
  · cases hm
theorem repL_cells {z : List Value} (hs : z.all isCell = true) : ∀ n, (repL n z).all isCell = true
  | 0 => rfl
  | n + 1 => by simp only [repL, List.all_append, hs, repL_cells hs n, Bool.and_self]
theorem clear_sound {ty : TypeId} {x cx : Value} {k : Value → Heap → Option α} (H : HR base ρ β md.lim h w) (hx : VRel ρ h.length x cx) {tys : Array TypeId} (ht : tys[0]? = some ty) (hk : aClear P md ty x h k = some r) (o : TypeId) :
    Eff P base md ρ β h w (Builtin.clear_ tys o #[cx]) k r := by
  have hx0 : ∀ v : Value, (#[v] : Array Value)[0]? = some v := fun _ => rfl
  unfold aClear at hk
  split at hk
  · rename_i e hu
    have := hx.scalar_eq rfl
    subst this
    refine ⟨_, _, ρ, _, _, hk, ?_, H, LRel.tuple LRel.nil, Ext.refl⟩
    simp only [Builtin.clear_, ht, hx0, Sem.run_bind, run_underlying hu, Result.andThen_ok, Sem.run_pure]
  · rename_i e b i n s hu
    split at hk
    · rename_i z hz
      obtain ⟨j, zv, h1, h2, rfl⟩ := zeroOf_some hz
      split at hk
      · rename_i hc
        obtain ⟨c1, c2, c3, c4⟩ := hc
        rcases hx.slice_inv with ⟨hb, c', rfl, _, _, _⟩ | ⟨rfl, a, rfl⟩
        · split at hk
          · rename_i h0
            subst h0
            refine ⟨_, _, ρ, _, _, hk, ?_, H, LRel.tuple LRel.nil, Ext.refl⟩
            simp only [Builtin.clear_, ht, hx0, Sem.run_bind, run_underlying hu, Result.andThen_ok, Sem.run_pure]
          · rename_i h0
            split at hk
            · rename_i h' hw
              obtain ⟨w', g1, g2, g3⟩ := wr_sound (P := P) (cvs := repL n zv.cells.toList) H (LRel.of_scalars _ (repL_scalars c3 n)) (repL_cells c4 n) hw
              refine ⟨_, _, ρ, h', w', hk, ?_, g2, LRel.tuple LRel.nil, g3⟩
              have hr : (Builtin.zeroCells zv.cells n).toList = repL n zv.cells.toList := rangeCells _ _ (by simp at c1; omega)
              obtain ⟨n, rfl⟩ := Nat.exists_eq_succ_of_ne_zero h0
              simp only [Builtin.clear_, ht, hx0, Sem.run_bind, run_underlying hu, Result.andThen_ok, run_zeroValue h1 h2, hr, g1, Sem.run_pure]
            · cases hk
        · rw [if_pos rfl] at hk
          refine ⟨_, _, ρ, _, _, hk, ?_, H, LRel.tuple LRel.nil, Ext.refl⟩
          simp only [Builtin.clear_, ht, hx0, Sem.run_bind, run_underlying hu, Result.andThen_ok, Sem.run_pure]
      · cases hk
    · cases hk
  · cases hk
theorem builtin_wp {o : Oper} {a : Act} {K : Act → World → Prop} {Q : Exit → Act → World → Prop} {t : T} {b : Builtin} {c : Call} {k : Value → Heap → Option α} (ho : o.op = .call c)
    (hb : c.callee = .builtin b) (H : HR base ρ β md.lim h w) (hT : TRel ρ h.length t a.tmps) (hx : c.args.toList.all okOperand = true)
    (hk : aBuiltin P md b c.argTypes (c.args.toList.map (ev t)) h k = some r) (hK : Cont base md ρ β h w k r (fun cv w' => K (a.put o.dst cv) w')) : o.wp P a w K Q := by
  have hl := evs_rel hT hx
  have hargs : c.args.map a.eval = (c.args.toList.map a.eval).toArray := by apply Array.ext'; simp
  have he : ∀ s : Sem Value, builtin b c.argTypes o.type (c.args.map fun | .const _ => true | _ => false) (c.args.map a.eval) = (do pure (.value (← s))) →
      execOp a.eval o = (do pure (.value (← s))) := by
    intro s hs
    simp only [execOp, ho, resolve, hb]
    exact hs
  unfold aBuiltin at hk
  split at hk
  · rename_i x hxs
    rw [hxs] at hl
    obtain ⟨cx, l', e1, hv, hl'⟩ := hl.cons_inv
    rw [hl'.nil_inv] at e1
    cases hlm : lenOfMap P c.argTypes
    · rw [hlm, cond_false] at hk
      split at hk
      · rename_i ty hty
        refine val_wp H (he (Builtin.len_ c.argTypes o.type #[cx]) ?_) (len_sound hty hv hk o.type) hK
        rw [hargs, e1]; rfl
      · cases hk
    · rw [hlm, cond_true] at hk
      refine val_wp H (he (Builtin.len_ c.argTypes o.type #[cx]) ?_) (lenM_sound H hlm hv hk o.type) hK
      rw [hargs, e1]; rfl
  · rename_i s x hxs
    rw [hxs] at hl
    obtain ⟨cs, l', e1, hv, hl'⟩ := hl.cons_inv
    obtain ⟨cx, l'', e2, hv', hl''⟩ := hl'.cons_inv
    rw [hl''.nil_inv] at e2
    rw [e2] at e1
    split at hk
    · rename_i ty xty htys
      refine eff_wp (he (Builtin.append_ #[ty, xty] o.type #[cs, cx]) ?_) (append_sound H hv hv' hk o.type) hK
      rw [hargs, e1]
      have : c.argTypes = #[ty, xty] := by apply Array.ext'; simpa using htys
      rw [this]; rfl
    · cases hk
  · rename_i x xs hxs
    rw [hxs] at hl
    obtain ⟨cx, l', e1, hv, hl'⟩ := hl.cons_inv
    split at hk
    · rename_i v hf
      obtain ⟨cv, g1, g2⟩ := foldO_run (P := P) (w := w) (g := Builtin.min2) (fun x y v hh => min_run x y v hh) xs l' x cx v hl' hv hf
      refine val_wp H (he (Builtin.min_ c.argTypes o.type (cx :: l').toArray) ?_) ⟨v, cv, hk, by simpa [Builtin.min_] using g1, g2⟩ hK
      rw [hargs, e1]; rfl
    · cases hk
  · rename_i s x hxs
    rw [hxs] at hl
    obtain ⟨cs, l', e1, hv, hl'⟩ := hl.cons_inv
    obtain ⟨cx, l'', e2, hv', hl''⟩ := hl'.cons_inv
    rw [hl''.nil_inv] at e2
    rw [e2] at e1
    split at hk
    · rename_i ty hty
      obtain ⟨h', w', g1, g2, g3, g4⟩ := mapDel_sound (P := P) H hv hv' hty hk o.type
      refine eff_wp (he (Builtin.delete_ c.argTypes o.type #[cs, cx]) ?_) ⟨_, _, _, _, _, g1, g2, g3, LRel.tuple LRel.nil, g4⟩ hK
      rw [hargs, e1]; rfl
    · cases hk
  · rename_i x xs hxs
    rw [hxs] at hl
    obtain ⟨cx, l', e1, hv, hl'⟩ := hl.cons_inv
    split at hk
    · rename_i v hf
      obtain ⟨cv, g1, g2⟩ := foldO_run (P := P) (w := w) (g := Builtin.max2) (fun x y v hh => max_run x y v hh) xs l' x cx v hl' hv hf
      refine val_wp H (he (Builtin.max_ c.argTypes o.type (cx :: l').toArray) ?_) ⟨v, cv, hk, by simpa [Builtin.max_] using g1, g2⟩ hK
      rw [hargs, e1]; rfl
    · cases hk
  · rename_i x hxs
    rw [hxs] at hl
    obtain ⟨cx, l', e1, hv, hl'⟩ := hl.cons_inv
    rw [hl'.nil_inv] at e1
    split at hk
    · rename_i ty hty
      refine eff_wp (he (Builtin.clear_ c.argTypes o.type #[cx]) ?_) (clear_sound H hv hty hk o.type) hK
      rw [hargs, e1]; rfl
    · cases hk
  · cases hk

theorem all_append' {l l' : List Operand} (h : (l ++ l').all okOperand = true) : l.all okOperand = true ∧ l'.all okOperand = true := by simpa using h

theorem aCall_wp {o : Oper} {a : Act} {K : Act → World → Prop} {Q : Exit → Act → World → Prop} {rc : Rec} (hrc : SoundRec P rc) {t : T} {c : Call} {k : Value → Heap → Option α} (ho : o.op = .call c)
    (H : HR base ρ β md.lim h w) (hT : TRel ρ h.length t a.tmps) (hx : c.operands.toList.all okOperand = true) (hk : aCall P rc md t c h k = some r)
    (hK : Cont base md ρ β h w k r (fun cv w' => K (a.put o.dst cv) w')) : o.wp P a w K Q := by
  unfold aCall at hk
  split at hk
  · rename_i b hb
    have hx' : c.args.toList.all okOperand = true := by
      simp only [Call.operands, hb, Array.toList_append] at hx; exact (all_append' hx).2
    exact builtin_wp ho hb H hT hx' hk hK
  · rename_i f hf
    simp only [Call.operands, hf, Array.toList_append] at hx
    obtain ⟨hx1, hx2⟩ := all_append' hx
    have hv := ev_rel hT (x := f) (by simpa using hx1)
    have hl := evs_rel hT hx2
    split at hk
    · rename_i g fst cap hfe
      rw [hfe] at hv
      obtain ⟨a', b', e1, l1, l2⟩ := hv.func_some
      split at hk
      · rename_i v h' hg
        refine call_wp hrc (cargs := a' ++ c.args.map a.eval ++ b') H ?_ hg hk ?_ hK
        · simp only [Array.toList_append, Array.toList_map]
          exact (l1.append hl).append l2
        · simp [execOp, ho, resolve, hf, e1, Deferred.ofValue, invoke]
      · cases hk
    · cases hk
  · rename_i x name hf
    simp only [Call.operands, hf, Array.toList_append] at hx
    obtain ⟨hx1, hx2⟩ := all_append' hx
    have hv := ev_rel hT (x := x) (by simpa using hx1)
    have hl := evs_rel hT hx2
    split at hk
    · rename_i ty v hxe
      rw [hxe] at hv
      obtain ⟨cv, e1, hv'⟩ := hv.iface_some
      split at hk
      · rename_i g recv hm
        split at hk
        · rename_i u h' hg
          obtain ⟨cx, m1, m2⟩ := method_sound hv' hm w (P.types.size + Made.depth - 1)
          have hfu : P.types.size + Made.depth - 1 + 1 = P.types.size + Made.depth := by simp [Made.depth]
          rw [hfu] at m1
          refine call_wp hrc (cargs := #[cx] ++ c.args.map a.eval) H ?_ hg hk ?_ hK
          · simp only [Array.toList_append, Array.toList_map]
            exact LRel.cons m2 hl
          · have hext : (#[Value.iface ty cv] ++ c.args.map a.eval).extract 1 (#[Value.iface ty cv] ++ c.args.map a.eval).size = c.args.map a.eval := by
              apply Array.ext'
              simp [Array.toList_extract, List.extract_eq_take_drop]
              exact List.take_of_length_le (by simp)
            have hget : (#[Value.iface ty cv] ++ c.args.map a.eval)[0]? = some (Value.iface ty cv) := by
              rw [Array.getElem?_append_left (by simp)]; rfl
            simp only [execOp, ho, resolve, hf, e1, Sem.run_bind, Sem.run_pure, Result.andThen_ok, invoke, hget, hext, callMethod, run_program, m1]
        · cases hk
      · cases hk
    · cases hk

theorem oopt {t : T} {a : Act} (hT : TRel ρ n t a.tmps) {x : Option Operand} (hx : ∀ y, x = some y → okOperand y = true) : ORel ρ n (x.map (ev t)) (x.map a.eval) := by
  cases x with
  | none => trivial
  | some y => exact ev_rel hT (hx y rfl)

theorem intsOf_rel {kd : IntKind} : ∀ {l l' : List Value} {ns : List Int}, LRel ρ n l l' → intsOf kd l = some ns → l' = ns.map (Value.int kd) := by
  intro l
  induction l with
  | nil => intro l' ns hl h; cases h; rw [hl.nil_inv]; rfl
  | cons v l ih =>
    intro l' ns hl h
    obtain ⟨c, r, rfl, hv, hr⟩ := hl.cons_inv
    unfold intsOf at h
    split at h
    · rename_i he; cases he
    · rename_i kd' m r' he
      cases he
      split at h
      · rename_i e
        subst e
        cases hi : intsOf kd' l with
        | none => simp [hi] at h
        | some ms =>
          simp only [hi, Option.some.injEq] at h
          subst h
          rw [ih hr hi, hv.int_inv]; rfl
      · cases h
    · cases h
theorem convH_sound {src dst : TypeId} {x cx : Value} {k : Value → Option α} (H : HR base ρ β md.lim h w) (hx : VRel ρ h.length x cx) (hk : aConvH P src dst x h k = some r) : Val P ρ h.length w (convert src dst cx) k r := by
  unfold aConvH at hk
  split at hk
  · rename_i e l c h1 h2
    rw [hx.scalar_eq rfl]
    split at hk
    · rename_i h3
      exact ⟨_, .string .empty, hk, by simp [convert, run_underlying h1, run_underlying h2, run_underlying h3, Conv.bytesToString], .sc _ rfl⟩
    · rename_i h3
      exact ⟨_, .string .empty, hk, by simp [convert, run_underlying h1, run_underlying h2, run_underlying h3, Conv.runesToString], .sc _ rfl⟩
    · cases hk
  · rename_i e b o n c h1 h2
    have key : ∀ l, rdN h b o n = some l → ∃ ad l' c', cx = .slice (some ad) n c' ∧ LRel ρ h.length l l' ∧ (loadCells ad n).run P w = .ok l'.toArray w := by
      intro l hl
      have hz : ∀ ad : Addr, (loadCells ad 0).run P w = .ok (#[] : Array Value) w := fun ad => by simp [loadCells, loadCellsFrom]
      cases hx with
      | sc _ h => simp [scalar] at h
      | slice b o l0 c c' hb hl0 h0 hc =>
        obtain ⟨l', g1, g2⟩ := H.rdN hl
        have hlen : l'.length = n := by rw [← g1.1, (rdN_get hl).1]
        refine ⟨_, l', _, rfl, g1, ?_⟩
        rw [← hlen]
        exact run_loadCells_list (P := P) w ⟨(ρ b).blk, (ρ b).off + o, none⟩ l' (fun j v hv => by rw [Addr.add_lit]; exact g2 j v hv)
      | slice0 b o c a hb =>
        have : l = [] := List.length_eq_zero_iff.1 (rdN_get hl).1
        exact ⟨_, [], _, rfl, by rw [this]; exact LRel.nil, hz a⟩
    split at hk
    · rename_i h3 hl
      split at hk
      · rename_i bs hb
        obtain ⟨ad, l', c', rfl, g1, g2⟩ := key _ hl
        rw [intsOf_rel g1 hb] at g2
        exact ⟨_, _, hk, by simp [convert, run_underlying h1, run_underlying h2, run_underlying h3, run_bytesToString w ad n c' bs g2, encBytes], .sc _ rfl⟩
      · cases hk
    · rename_i h3 hl
      split at hk
      · rename_i bs hb
        obtain ⟨ad, l', c', rfl, g1, g2⟩ := key _ hl
        rw [intsOf_rel g1 hb] at g2
        exact ⟨_, _, hk, by simp [convert, run_underlying h1, run_underlying h2, run_underlying h3, run_runesToString w ad n c' bs g2, encRunes, runesBytes], .sc _ rfl⟩
      · cases hk
    · cases hk
  · cases hk
theorem range_sound {ty : TypeId} {x cx : Value} {k : Value → Heap → Option α} (H : HR base ρ β md.lim h w) (hx : VRel ρ h.length x cx) (hk : aRange P ty x h k = some r) : Eff P base md ρ β h w (Instr.range ty cx) k r := by
  unfold aRange at hk
  split at hk
  · rename_i s hu
    rw [hx.string_inv]
    obtain ⟨H', E'⟩ := H.allocS s
    refine ⟨_, .pointer (some ⟨w.heap.size, 0, none⟩), _, _, _, hk, run_range_string w ty s hu, H', ?_, E' md⟩
    have := VRel.ptr (ρ := fun b => if b = h.length then (⟨w.heap.size, 0, 0⟩ : Loc) else ρ b) (n := (h ++ [Blk.si s 0]).length) h.length 0 (by simp)
    simpa using this
  · cases hk
theorem next_sound {x cx : Value} {isS : Bool} {k : Value → Heap → Option α} (H : HR base ρ β md.lim h w) (hx : VRel ρ h.length x cx) (hk : aNext md x isS h k = some r) (ty : TypeId) : Eff P base md ρ β h w (Instr.next cx isS ty) k r := by
  unfold aNext at hk
  split at hk
  · rename_i b
    obtain ⟨_, rfl⟩ := hx.ptr_inv
    split at hk
    · rename_i s p hb
      obtain ⟨g1, g0, g2⟩ := H.mp.si b s p hb
      rw [g0]
      split at hk
      · rename_i hro
        cases hp : Nat.blt p s.size
        · simp only [hp, cond_false] at hk
          have hp' : ¬ p < s.size := fun q => by rw [← Nat.blt_eq] at q; rw [q] at hp; cases hp
          exact ⟨_, .tuple #[.bool false], ρ, h, w, hk, by simp [Instr.next, getObj, Sem.run, g2, hp'], H, VRel.closed rfl, Ext.refl⟩
        · simp only [hp, cond_true] at hk
          have hp' : p < s.size := by rw [← Nat.blt_eq]; exact hp
          obtain ⟨H', E'⟩ := H.setS (tx2 := s) (pp2 := p + (Utf8.decode s p).2) hb
          refine ⟨_, .tuple #[.bool true, .int .i64 (p : Int), .int .i32 ((Utf8.decode s p).1 : Int)], ρ, _, _, hk, ?_, H', VRel.closed rfl, E' md hro⟩
          simp [Instr.next, getObj, setObj, Sem.run, g2, hp', goInt]
      · cases hk
    · cases hk
  · cases hk
/-- The operation is the model's. -/
theorem aOp0_wp {o : Oper} {a : Act} {K : Act → World → Prop} {Q : Exit → Act → World → Prop} {rc : Rec} (hrc : SoundRec P rc) {t : T} {k : Value → Heap → Option α} (H : HR base ρ β md.lim h w)
    (hT : TRel ρ h.length t a.tmps) (hx : o.op.operands.toList.all okOperand = true) (hk : aOp0 P rc md t o h k = some r)
    (hK : Cont base md ρ β h w k r (fun cv w' => K (a.put o.dst cv) w')) : o.wp P a w K Q := by
  have one : ∀ x, o.op.operands.toList = [x] → VRel ρ h.length (ev t x) (a.eval x) := fun x e => ev_rel hT (by rw [e] at hx; simpa using hx)
  have two : ∀ x y, o.op.operands.toList = [x, y] → VRel ρ h.length (ev t x) (a.eval x) ∧ VRel ρ h.length (ev t y) (a.eval y) := fun x y e => by
    rw [e] at hx; simp at hx; exact ⟨ev_rel hT hx.1, ev_rel hT hx.2⟩
  unfold aOp0 at hk
  split at hk
  · rename_i x ho
    have h1 := one x (by simp [ho, Op.operands])
    exact wp_value (cv := a.eval x) (w' := w) (by simp [execOp, ho]) (hK _ _ ρ h w hk H h1 Ext.refl)
  · rename_i x ho
    have h1 := one x (by simp [ho, Op.operands])
    exact wp_value (cv := a.eval x) (w' := w) (by simp [execOp, ho]) (hK _ _ ρ h w hk H h1 Ext.refl)
  · rename_i c x y ho
    simp only [ho, Op.operands] at hx
    simp at hx
    have hc := ev_rel hT hx.1
    split at hk
    · rename_i q hq
      rw [hq] at hc
      cases q
      · exact wp_value (cv := a.eval y) (w' := w) (by simp [execOp, ho, hc.bool_inv, asBool]) (hK _ _ ρ h w hk H (ev_rel hT hx.2.2) Ext.refl)
      · exact wp_value (cv := a.eval x) (w' := w) (by simp [execOp, ho, hc.bool_inv, asBool]) (hK _ _ ρ h w hk H (ev_rel hT hx.2.1) Ext.refl)
    · cases hk
  · rename_i ty ho
    split at hk
    · rename_i z hz
      split at hk
      · rename_i hs
        exact eff_wp (s := Instr.alloc ty true (.tuple #[])) (by simp [execOp, ho]) (alloc_sound H hz hs hk) hK
      · cases hk
    · cases hk
  · rename_i ty x ho
    have h1 := one x (by simp [ho, Op.operands])
    exact eff_wp (s := Instr.box ty (a.eval x)) (by simp [execOp, ho]) (box_sound H h1 hk) hK
  · rename_i ty ps ho
    have hp := parts_rel (ρ := ρ) (n := h.length) hT (l := ps.toList) (by simpa [ho, Op.operands] using hx)
    exact val_wp (s := Instr.build ty (ps.map fun (i, x) => (i, a.eval x))) H (by simp [execOp, ho]) (build_sound (by simpa using hp) hk) hK
  · rename_i ty m ps ho
    have hp := parts_rel (ρ := ρ) (n := h.length) hT (l := ps.toList) (by simpa [ho, Op.operands] using hx)
    exact eff_wp (s := Instr.buildSlice ty m (ps.map fun (i, x) => (i, a.eval x))) (by simp [execOp, ho]) (buildSlice_sound H (by simpa using hp) hk) hK
  · rename_i ty x ho
    have h1 := one x (by simp [ho, Op.operands])
    exact val_wp (s := Instr.loadAt ty (a.eval x)) H (by simp [execOp, ho]) (aLoad_sound H h1 hk) hK
  · rename_i ty x v ho
    obtain ⟨h1, h2⟩ := two x v (by simp [ho, Op.operands])
    obtain ⟨h', w', g1, g2, g3, g4⟩ := aStore_sound (P := P) H h1 h2 hk
    unfold Oper.wp
    have : (execOp a.eval o).run P w = .ok .skip w' := by simp [execOp, ho, g2]
    rw [this, Oper.upon_skip]
    exact hK undef undef ρ h' w' g1 g3 VRel.undef g4
  · rename_i x ho
    have h1 := one x (by simp [ho, Op.operands])
    cases hok : okNil P (ev t x)
    · simp [hok] at hk
    · simp only [hok, cond_true] at hk
      refine wp_value (cv := a.eval x) (w' := w) ?_ (hK _ _ ρ h w hk H h1 Ext.refl)
      unfold okNil at hok
      split at hok
      · rename_i nm fs cap hq
        rw [hq] at h1
        obtain ⟨a', b', e1, l1, _⟩ := h1.func_some
        split at hok
        · rename_i ty' v' hfs
          rw [hfs] at l1
          obtain ⟨cx, l', e2, hv, hl'⟩ := l1.cons_inv
          rw [hl'.nil_inv] at e2
          obtain ⟨cv', e3, hv'⟩ := hv.iface_some
          obtain ⟨⟨g, x'⟩, hm⟩ := Option.isSome_iff_exists.1 hok
          have ha := ahead_sound hv' hm w (P.types.size + Made.depth - 1)
          have hfu : P.types.size + Made.depth - 1 + 1 = P.types.size + Made.depth := by simp [Made.depth]
          rw [hfu] at ha
          have hf0 : a'[0]? = some (.iface ty' cv') := by rw [← Array.getElem?_toList, e2, e3]; rfl
          simp only [execOp, ho, e1, hf0, Sem.run_bind, run_program, Result.andThen_ok]
          rw [ha]
          simp
        · cases hok
      · unfold okPtr at hok
        split at hok
        · rename_i ad hq
          rw [hq] at h1
          obtain ⟨a', e1⟩ := h1.ptr_some
          simp [execOp, ho, e1]
        · rename_i g f c hq
          rw [hq] at h1
          obtain ⟨a', b', e1, _⟩ := h1.func_some
          simp [execOp, ho, e1]
        · rename_i u v hq
          rw [hq] at h1
          obtain ⟨a', e1, _⟩ := h1.iface_some
          simp [execOp, ho, e1]
        · cases hok
  · rename_i op ty x y yt ho
    obtain ⟨h1, h2⟩ := two x y (by simp [ho, Op.operands])
    exact val_wp (s := do eqGuard op ty x y (a.eval x) (a.eval y); binOp op ty (a.eval x) (a.eval y)) H (by simp [execOp, ho]) (bin_sound h1 h2 hk) hK
  · rename_i op ty x ho
    have h1 := one x (by simp [ho, Op.operands])
    exact val_wp (s := Op.unary op (a.eval x)) H (by simp [execOp, ho]) (un_sound h1 hk) hK
  · rename_i src dst x ho
    have h1 := one x (by simp [ho, Op.operands])
    cases hcm : convMem P src
    · simp only [hcm, cond_false] at hk
      exact val_wp (s := convert src dst (a.eval x)) H (by simp [execOp, ho]) (conv_sound h1 hk) hK
    · simp only [hcm, cond_true] at hk
      exact val_wp (s := convert src dst (a.eval x)) H (by simp [execOp, ho]) (convH_sound H h1 hk) hK
  · rename_i ty x ho
    have h1 := one x (by simp [ho, Op.operands])
    split at hk
    · cases hk
    · rename_i d hne hu
      refine wp_value (cv := .iface ty (a.eval x)) (w' := w) ?_ (hK _ _ ρ h w hk H (.iface ty _ _ h1) Ext.refl)
      have : ∀ m, d ≠ .interface m := fun m e => hne m (by rw [e])
      simp only [execOp, ho, Instr.makeInterface, Sem.run_bind, run_underlying hu, Result.andThen_ok]
      cases d <;> first | exact absurd rfl (this _) | simp
    · cases hk
  · rename_i fn fs cs ho
    simp only [ho, Op.operands, Array.toList_append] at hx
    obtain ⟨hx1, hx2⟩ := all_append' hx
    have l1 := evs_rel (ρ := ρ) (n := h.length) hT hx1
    have l2 := evs_rel (ρ := ρ) (n := h.length) hT hx2
    refine wp_value (cv := .func fn (fs.map a.eval) (cs.map a.eval)) (w' := w) (by simp [execOp, ho, Instr.makeFunc]) (hK _ _ ρ h w hk H ?_ Ext.refl)
    refine .func fn _ _ _ _ (by simp) (fun i v c hv hc => ?_) (by simp) (fun i v c hv hc => ?_)
    · exact l1.2 i v c (by simpa using hv) (by simpa using hc)
    · exact l2.2 i v c (by simpa using hv) (by simpa using hc)
  · rename_i ty l c ho
    obtain ⟨h1, h2⟩ := two l c (by simp [ho, Op.operands])
    exact eff_wp (s := Instr.makeSlice ty (a.eval l) (a.eval c)) (by simp [execOp, ho]) (makeSlice_sound H h1 h2 hk) hK
  · rename_i ty x lo hi mx ho
    simp only [ho, Op.operands] at hx
    have hx0 : okOperand x = true := by
      simp only [Array.toList_append, List.all_append, Bool.and_eq_true] at hx
      simpa using hx.1.1.1
    have hlo : ∀ y, lo = some y → okOperand y = true := fun y e => by subst e; simp [Array.toList_append] at hx; exact hx.2.1
    have hhi : ∀ y, hi = some y → okOperand y = true := fun y e => by subst e; cases lo <;> simp [Array.toList_append] at hx <;> first | exact hx.2.1 | exact hx.2.2.1
    have hmx : ∀ y, mx = some y → okOperand y = true := fun y e => by subst e; cases lo <;> cases hi <;> simp [Array.toList_append] at hx <;> first | exact hx.2 | exact hx.2.2 | exact hx.2.2.2
    exact val_wp (s := Instr.sliceAt ty (a.eval x) (lo.map a.eval) (hi.map a.eval) (mx.map a.eval)) H (by simp [execOp, ho]) (slice_sound (ev_rel hT hx0) (oopt hT hlo) (oopt hT hhi) (oopt hT hmx) hk) hK
  · rename_i ty x f ho
    have h1 := one x (by simp [ho, Op.operands])
    exact val_wp (s := Instr.fieldAt ty (a.eval x) f) H (by simp [execOp, ho]) (fieldAddr_sound h1 hk) hK
  · rename_i ty x f ho
    have h1 := one x (by simp [ho, Op.operands])
    exact val_wp (s := Instr.field ty (a.eval x) f) H (by simp [execOp, ho]) (field_sound h1 hk) hK
  · rename_i ty x i ho
    obtain ⟨h1, h2⟩ := two x i (by simp [ho, Op.operands])
    exact val_wp (s := Instr.indexAt ty (a.eval x) (a.eval i)) H (by simp [execOp, ho]) (indexAddr_sound h1 h2 hk) hK
  · rename_i ty x i ho
    obtain ⟨h1, h2⟩ := two x i (by simp [ho, Op.operands])
    exact val_wp (s := Instr.index ty (a.eval x) (a.eval i)) H (by simp [execOp, ho]) (index_sound h1 h2 hk) hK
  · rename_i x xt ty ok ho
    have h1 := one x (by simp [ho, Op.operands])
    exact val_wp (s := Instr.typeAssert (a.eval x) xt ty ok) H (by simp [execOp, ho]) (assert_sound h1 hk) hK
  · rename_i x i ho
    have h1 := one x (by simp [ho, Op.operands])
    split at hk
    · rename_i vs hq
      rw [hq] at h1
      obtain ⟨ys, e1, hl⟩ := h1.tuple_inv
      split at hk
      · rename_i v hv
        obtain ⟨c, g1, g2⟩ := hl.get hv
        have : ys[i]? = some c := by simpa using g1
        exact wp_value (cv := c) (w' := w) (by simp [execOp, ho, e1, Instr.extract, this]) (hK _ _ ρ h w hk H g2 Ext.refl)
      · cases hk
    · cases hk
  · rename_i c ho
    exact aCall_wp hrc ho H hT (by simpa [ho, Op.operands] using hx) hk hK
  · rename_i ty ho
    exact eff_wp (s := Instr.makeMap ty none) (by simp [execOp, ho]) (makeMap_sound H hk) hK
  · rename_i ty x i ok ho
    obtain ⟨h1, h2⟩ := two x i (by simp [ho, Op.operands])
    exact val_wp (s := Instr.lookup ty (a.eval x) (a.eval i) ok) H (by simp [execOp, ho]) (lookup_sound H h1 h2 hk) hK
  · rename_i ty m i v ho
    simp only [ho, Op.operands] at hx
    simp at hx
    obtain ⟨h', w', g1, g2, g3, g4⟩ := mapPut_sound (P := P) H (ev_rel hT hx.1) (ev_rel hT hx.2.1) (ev_rel hT hx.2.2) hk
    unfold Oper.wp
    have : (execOp a.eval o).run P w = .ok .skip w' := by simp [execOp, ho, g2]
    rw [this, Oper.upon_skip]
    exact hK undef undef ρ h' w' g1 g3 VRel.undef g4
  · rename_i ty m i v ho
    simp only [ho, Op.operands] at hx
    simp at hx
    obtain ⟨h', w', g1, g2, g3, g4⟩ := mapPut_sound (P := P) H (ev_rel hT hx.1) (ev_rel hT hx.2.1) (ev_rel hT hx.2.2) hk
    unfold Oper.wp
    have : (execOp a.eval o).run P w = .ok .skip w' := by simp [execOp, ho, g2]
    rw [this, Oper.upon_skip]
    exact hK undef undef ρ h' w' g1 g3 VRel.undef g4
  · rename_i ty x ho
    have h1 := one x (by simp [ho, Op.operands])
    exact eff_wp (s := Instr.range ty (a.eval x)) (by simp [execOp, ho]) (range_sound H h1 hk) hK
  · rename_i x isS ho
    have h1 := one x (by simp [ho, Op.operands])
    exact eff_wp (s := Instr.next (a.eval x) isS o.type) (by simp [execOp, ho]) (next_sound H h1 hk o.type) hK
  · cases hk

theorem castV_some {α : Type} {ty : TypeId} {v : Value} {k : Value → Option α} {r : α} (h : castV P ty v k = some r) : k v = some r := by
  unfold castV at h
  split at h
  · unfold cI at h
    split at h
    · split at h
      · rename_i e; subst e; exact h
      · cases h
    · cases h
  · unfold cB at h
    split at h
    · exact h
    · cases h
  · exact h

theorem aOp_wp {o : Oper} {a : Act} {K : Act → World → Prop} {Q : Exit → Act → World → Prop} {rc : Rec} (hrc : SoundRec P rc) {t : T} {k : Value → Heap → Option α} (H : HR base ρ β md.lim h w)
    (hT : TRel ρ h.length t a.tmps) (hx : o.op.operands.toList.all okOperand = true) (hk : aOp P rc md t o h k = some r)
    (hK : Cont base md ρ β h w k r (fun cv w' => K (a.put o.dst cv) w')) : o.wp P a w K Q := by
  refine aOp0_wp hrc H hT hx hk fun v cv ρ' h' w' hv => hK v cv ρ' h' w' ?_
  cases hc : castOf o.op
  · simpa [hc] using hv
  · simp only [hc, cond_true] at hv; exact castV_some hv

end Go.Det
