/- The operations of a region in another order. -/
import Derived.Test.YtbliaopehpcpbaaDoorDetJ
set_option autoImplicit false
set_option linter.unusedVariables false
set_option linter.unusedSimpArgs false
set_option linter.unusedSectionVars false
namespace Go.Det
open Go.RowKit (Below)

section
variable {P : Program} {α : Type} {md : Md} {rc : Rec}

/-- Every step hands its answer on, and looks at nothing behind. -/
theorem aLoad_bind (ty : TypeId) (x : Value) (h : Heap) (k : Value → Option α) : aLoad P ty x h k = (aLoad P ty x h some).bind k := by
  unfold aLoad; repeat' (split <;> try simp)
theorem aStore_bind (ty : TypeId) (x v : Value) (h : Heap) (k : Heap → Option α) : aStore P md ty x v h k = (aStore P md ty x v h some).bind k := by
  unfold aStore; repeat' (split <;> try simp)
theorem aBin_bind (op : BinOp) (ty : TypeId) (x y : Value) (k : Value → Option α) : aBin P op ty x y k = (aBin P op ty x y some).bind k := by
  unfold aBin; repeat' (split <;> try simp)
theorem aUn_bind (op : UnOp) (x : Value) (k : Value → Option α) : aUn op x k = (aUn op x some).bind k := by
  unfold aUn; repeat' (split <;> try simp)
theorem aConv_bind (s d : TypeId) (x : Value) (k : Value → Option α) : aConv P s d x k = (aConv P s d x some).bind k := by
  unfold aConv; repeat' (split <;> try simp)
theorem partOf_bind (f : TypeId) (cs : List Value) (off : Nat) (k : Value → Option α) : partOf P f cs off k = (partOf P f cs off some).bind k := by
  unfold partOf; repeat' (split <;> try simp)
theorem aBuild_bind (ty : TypeId) (ps : List (Nat × Value)) (k : Value → Option α) : aBuild P ty ps k = (aBuild P ty ps some).bind k := by
  unfold aBuild
  split
  · split
    · split
      · rename_i fs _
        cases fs.toList.all (fun f => (P.info? f.type).isSome)
        · simp
        · simp only [cond_true]; split <;> simp
      · split
        · split <;> simp
        · simp
      · simp
    · simp
  · simp
theorem aBuildSlice_bind (ty : TypeId) (n : Nat) (ps : List (Nat × Value)) (h : Heap) (k : Value → Heap → Option α) :
    aBuildSlice P ty n ps h k = (aBuildSlice P ty n ps h fun v h' => some (v, h')).bind fun p => k p.1 p.2 := by
  unfold aBuildSlice; repeat' (split <;> try simp)
theorem aMakeSlice_bind (ty : TypeId) (l c : Value) (h : Heap) (k : Value → Heap → Option α) :
    aMakeSlice P ty l c h k = (aMakeSlice P ty l c h fun v h' => some (v, h')).bind fun p => k p.1 p.2 := by
  unfold aMakeSlice; repeat' (split <;> try simp)
theorem aSlice_bind (ty : TypeId) (x : Value) (lo hi mx : Option Value) (k : Value → Option α) : aSlice P ty x lo hi mx k = (aSlice P ty x lo hi mx some).bind k := by
  unfold aSlice; repeat' (split <;> try simp)
theorem aFieldAddr_bind (ty : TypeId) (x : Value) (f : Nat) (k : Value → Option α) : aFieldAddr P ty x f k = (aFieldAddr P ty x f some).bind k := by
  unfold aFieldAddr
  split
  · split
    · split
      · rename_i j _ _ _
        cases Nat.beq j.size 0 <;> simp
      · simp
    · simp
  · simp
theorem aField_bind (ty : TypeId) (x : Value) (f : Nat) (k : Value → Option α) : aField P ty x f k = (aField P ty x f some).bind k := by
  unfold aField
  split
  · split
    · exact partOf_bind _ _ _ _
    · simp
  · simp
theorem aIndexAddr_bind (ty : TypeId) (x i : Value) (k : Value → Option α) : aIndexAddr P ty x i k = (aIndexAddr P ty x i some).bind k := by
  unfold aIndexAddr; repeat' (split <;> try simp)
theorem aIndex_bind (ty : TypeId) (x i : Value) (k : Value → Option α) : aIndex P ty x i k = (aIndex P ty x i some).bind k := by
  unfold aIndex
  split
  · split
    · split
      · split
        · exact partOf_bind _ _ _ _
        · simp
      · simp
    · split
      · split <;> simp
      · simp
    · simp
  · simp
theorem aAssert_bind (x : Value) (ty : TypeId) (ok : Bool) (k : Value → Option α) : aAssert P x ty ok k = (aAssert P x ty ok some).bind k := by
  have key : ∀ z : Value, (bif closed z then k (.tuple #[z, .bool false]) else none) = (bif closed z then some (.tuple #[z, .bool false]) else none : Option Value).bind k := fun z => by
    cases closed z <;> simp
  unfold aAssert
  split
  · simp
  · split
    · simp
    · cases ok <;> simp
      split
      · split
        · exact key _
        · simp
      · simp
  · cases ok <;> simp
    split
    · split
      · exact key _
      · simp
    · simp
  · simp
theorem aAppend_bind (t u : TypeId) (s x : Value) (h : Heap) (k : Value → Heap → Option α) :
    aAppend P md t u s x h k = (aAppend P md t u s x h fun v h' => some (v, h')).bind fun p => k p.1 p.2 := by
  unfold aAppend; repeat' (split <;> try simp)
theorem aLen_bind (ty : TypeId) (x : Value) (k : Value → Option α) : aLen P ty x k = (aLen P ty x some).bind k := by
  unfold aLen; repeat' (split <;> try simp)
theorem lift_bind (m : Option Value) (h : Heap) (k : Value → Heap → Option α) : m.bind (fun v => k v h) = (m.bind fun v => some (v, h)).bind fun p => k p.1 p.2 := by
  cases m <;> simp
theorem aMapDel_bind (ty : TypeId) (x i : Value) (h : Heap) (k : Heap → Option α) : aMapDel P md ty x i h k = (aMapDel P md ty x i h some).bind k := by
  unfold aMapDel; repeat' (split <;> try simp)
theorem aLenM_bind (x : Value) (h : Heap) (k : Value → Heap → Option α) : aLenM x h k = (aLenM x h fun v h' => some (v, h')).bind fun p => k p.1 p.2 := by
  unfold aLenM
  repeat' (split <;> try simp)
theorem aClear_bind (ty : TypeId) (x : Value) (h : Heap) (k : Value → Heap → Option α) : aClear P md ty x h k = (aClear P md ty x h fun v h' => some (v, h')).bind fun p => k p.1 p.2 := by
  unfold aClear
  repeat' (split <;> try simp)
theorem aBuiltin_bind (b : Builtin) (tys : Array TypeId) (args : List Value) (h : Heap) (k : Value → Heap → Option α) :
    aBuiltin P md b tys args h k = (aBuiltin P md b tys args h fun v h' => some (v, h')).bind fun p => k p.1 p.2 := by
  unfold aBuiltin
  split
  · cases lenOfMap P tys
    · simp only [cond_false]
      split
      · rw [aLen_bind, aLen_bind (k := fun v => some (v, h))]; exact lift_bind _ _ _
      · simp
    · simp only [cond_true]
      exact aLenM_bind _ _ _
  · split
    · exact aAppend_bind _ _ _ _ _ _
    · simp
  · split <;> simp
  · split
    · rename_i ty _
      rw [aMapDel_bind, aMapDel_bind (k := fun h' => some (Value.tuple #[], h'))]; cases aMapDel P md ty _ _ h some <;> simp
    · simp
  · split <;> simp
  · split
    · exact aClear_bind _ _ _ _
    · simp
  · simp
theorem aCall_bind (t : T) (c : Call) (h : Heap) (k : Value → Heap → Option α) : aCall P rc md t c h k = (aCall P rc md t c h fun v h' => some (v, h')).bind fun p => k p.1 p.2 := by
  unfold aCall
  split
  · exact aBuiltin_bind _ _ _ _ _
  · repeat' (split <;> try simp)
  · repeat' (split <;> try simp)

theorem aLookup_bind (ty : TypeId) (x i : Value) (ok : Bool) (h : Heap) (k : Value → Option α) : aLookup P ty x i ok h k = (aLookup P ty x i ok h some).bind k := by
  unfold aLookup; repeat' (split <;> try simp)
theorem aMapPut_bind (ty : TypeId) (x i v : Value) (h : Heap) (k : Heap → Option α) : aMapPut P md ty x i v h k = (aMapPut P md ty x i v h some).bind k := by
  unfold aMapPut; repeat' (split <;> try simp)
theorem aConvH_bind (s d : TypeId) (x : Value) (h : Heap) (k : Value → Option α) : aConvH P s d x h k = (aConvH P s d x h some).bind k := by
  unfold aConvH; repeat' (split <;> try simp)
theorem aRange_bind (ty : TypeId) (x : Value) (h : Heap) (k : Value → Heap → Option α) : aRange P ty x h k = (aRange P ty x h fun v h' => some (v, h')).bind fun p => k p.1 p.2 := by
  unfold aRange; split <;> simp
theorem aNext_bind (x : Value) (isS : Bool) (h : Heap) (k : Value → Heap → Option α) : aNext md x isS h k = (aNext md x isS h fun v h' => some (v, h')).bind fun p => k p.1 p.2 := by
  unfold aNext
  split
  · split
    · split
      · rename_i s p _ _
        cases Nat.blt p s.size <;> simp
      · simp
    · simp
  · simp
theorem aOp0_bind (t : T) (o : Oper) (h : Heap) (k : Value → Heap → Option α) : aOp0 P rc md t o h k = (aOp0 P rc md t o h fun v h' => some (v, h')).bind fun p => k p.1 p.2 := by
  unfold aOp0
  split
  · simp
  · simp
  · split <;> simp
  · split
    · split <;> simp
    · simp
  · simp
  · rw [aBuild_bind, aBuild_bind (k := fun v => some (v, h))]; exact lift_bind _ _ _
  · exact aBuildSlice_bind _ _ _ _ _
  · rw [aLoad_bind, aLoad_bind (k := fun v => some (v, h))]; exact lift_bind _ _ _
  · rw [aStore_bind, aStore_bind (k := fun h' => some (undef, h'))]; cases aStore P md _ _ _ h some <;> simp
  · rename_i x _; cases okNil P (ev t x) <;> simp
  · rw [aBin_bind, aBin_bind (k := fun v => some (v, h))]; exact lift_bind _ _ _
  · rw [aUn_bind, aUn_bind (k := fun v => some (v, h))]; exact lift_bind _ _ _
  · rename_i s d x _
    cases convMem P s
    · simp only [cond_false]
      rw [aConv_bind, aConv_bind (k := fun v => some (v, h))]; exact lift_bind _ _ _
    · simp only [cond_true]
      rw [aConvH_bind, aConvH_bind (k := fun v => some (v, h))]; exact lift_bind _ _ _
  · split <;> simp
  · simp
  · exact aMakeSlice_bind _ _ _ _ _
  · rw [aSlice_bind, aSlice_bind (k := fun v => some (v, h))]; exact lift_bind _ _ _
  · rw [aFieldAddr_bind, aFieldAddr_bind (k := fun v => some (v, h))]; exact lift_bind _ _ _
  · rw [aField_bind, aField_bind (k := fun v => some (v, h))]; exact lift_bind _ _ _
  · rw [aIndexAddr_bind, aIndexAddr_bind (k := fun v => some (v, h))]; exact lift_bind _ _ _
  · rw [aIndex_bind, aIndex_bind (k := fun v => some (v, h))]; exact lift_bind _ _ _
  · rw [aAssert_bind, aAssert_bind (k := fun v => some (v, h))]; exact lift_bind _ _ _
  · split
    · split <;> simp
    · simp
  · exact aCall_bind _ _ _ _
  · unfold aMakeMap; split <;> simp
  · rename_i ty x i ok _
    rw [aLookup_bind, aLookup_bind (k := fun v => some (v, h))]; exact lift_bind _ _ _
  · rename_i ty m i v _
    rw [aMapPut_bind, aMapPut_bind (k := fun h' => some (undef, h'))]; cases aMapPut P md ty _ _ _ h some <;> simp
  · rename_i ty m i v _
    rw [aMapPut_bind, aMapPut_bind (k := fun h' => some (undef, h'))]; cases aMapPut P md ty _ _ _ h some <;> simp
  · exact aRange_bind _ _ _ _
  · exact aNext_bind _ _ _ _
  · simp

theorem castV_bind {α γ : Type} (ty : TypeId) (v : Value) (k : Value → Option α) (g : α → Option γ) : castV P ty v (fun v => (k v).bind g) = (castV P ty v k).bind g := by
  unfold castV
  split
  · unfold cI
    split
    · split <;> rfl
    · rfl
  · unfold cB
    split <;> rfl
  · rfl

theorem aOp_bind (t : T) (o : Oper) (h : Heap) (k : Value → Heap → Option α) : aOp P rc md t o h k = (aOp P rc md t o h fun v h' => some (v, h')).bind fun p => k p.1 p.2 := by
  unfold aOp
  rw [aOp0_bind, aOp0_bind (k := fun v h' => bif castOf o.op then castV P o.type v fun v => some (v, h') else some (v, h')), Option.bind_assoc]
  congr 1
  funext p
  cases castOf o.op
  · rfl
  · simp only [cond_true]
    exact castV_bind o.type p.1 (fun v => some (v, p.2)) (fun q => k q.1 q.2)

/-- Operands alone decide. -/
theorem aOp0_congr {t t' : T} {o : Oper} (he : ∀ x ∈ o.op.operands.toList, ev t x = ev t' x) (h : Heap) (k : Value → Heap → Option α) : aOp0 P rc md t o h k = aOp0 P rc md t' o h k := by
  have maps : ∀ l : List Operand, (∀ x ∈ l, ev t x = ev t' x) → l.map (ev t) = l.map (ev t') := fun l hl => List.map_congr_left hl
  have parts : ∀ l : List (Nat × Operand), (∀ x ∈ l.map (·.2), ev t x = ev t' x) → l.map (fun p => (p.1, ev t p.2)) = l.map (fun p => (p.1, ev t' p.2)) := fun l hl =>
    List.map_congr_left fun p hp => by rw [hl p.2 (List.mem_map.2 ⟨p, hp, rfl⟩)]
  obtain ⟨dst, op, type, pos, after, guard⟩ := o
  simp only at he
  unfold aOp0
  cases op <;> simp only [Op.operands] at he <;> simp only [] <;> (try rfl)
  case move x => rw [he x (by simp)]
  case assign x => rw [he x (by simp)]
  case pick c a b => rw [he c (by simp), he a (by simp), he b (by simp)]
  case box e x => rw [he x (by simp)]
  case build ty ps => rw [parts ps.toList (by simpa using he)]
  case buildSlice ty n ps => rw [parts ps.toList (by simpa using he)]
  case load ty x => rw [he x (by simp)]
  case store ty x v => rw [he x (by simp), he v (by simp)]
  case nilCheck x => rw [he x (by simp)]
  case binOp op ty x y yt => rw [he x (by simp), he y (by simp)]
  case unOp op ty x => rw [he x (by simp)]
  case convert s d x => rw [he x (by simp)]
  case makeInterface ty x => rw [he x (by simp)]
  case makeFunc fn fs cs =>
    have e1 : fs.map (ev t) = fs.map (ev t') := Array.map_congr_left fun x hx => he x (by simp [hx])
    have e2 : cs.map (ev t) = cs.map (ev t') := Array.map_congr_left fun x hx => he x (by simp [hx])
    rw [e1, e2]
  case makeSlice ty l c => rw [he l (by simp), he c (by simp)]
  case slice ty x lo hi mx =>
    rw [he x (by simp)]
    have e1 : lo.map (ev t) = lo.map (ev t') := by cases lo <;> simp_all
    have e2 : hi.map (ev t) = hi.map (ev t') := by cases hi <;> simp_all
    have e3 : mx.map (ev t) = mx.map (ev t') := by cases mx <;> simp_all
    rw [e1, e2, e3]
  case fieldAddr ty x f => rw [he x (by simp)]
  case field ty x f => rw [he x (by simp)]
  case indexAddr ty x i => rw [he x (by simp), he i (by simp)]
  case index ty x i => rw [he x (by simp), he i (by simp)]
  case typeAssert x xt ty ok => rw [he x (by simp)]
  case extract x i => rw [he x (by simp)]
  case makeMap ty r => cases r <;> rfl
  case range ty x => rw [he x (by simp)]
  case next x isS => rw [he x (by simp)]
  case lookup ty x i ok => rw [he x (by simp), he i (by simp)]
  case mapUpdate ty m i v => rw [he m (by simp), he i (by simp), he v (by simp)]
  case insert ty m i v => rw [he m (by simp), he i (by simp), he v (by simp)]
  case call c =>
    unfold aCall
    have e1 : c.args.toList.map (ev t) = c.args.toList.map (ev t') := maps _ fun x hx => he x (by simp [Call.operands]; right; simpa using hx)
    rw [e1]
    cases hc : c.callee with
    | builtin b => rfl
    | value f => simp only []; rw [he f (by simp [Call.operands, hc])]
    | invoke x name => simp only []; rw [he x (by simp [Call.operands, hc])]

theorem aOp_congr {t t' : T} {o : Oper} (he : ∀ x ∈ o.op.operands.toList, ev t x = ev t' x) (h : Heap) (k : Value → Heap → Option α) : aOp P rc md t o h k = aOp P rc md t' o h k :=
  aOp0_congr he h _

/-! ### One step as a value -/

theorem upd_same (t : T) (i : Nat) (v : Value) : upd t i v i = v := by simp [upd]
theorem upd_ne (t : T) {i j : Nat} (v : Value) (h : j ≠ i) : upd t i v j = t j := by
  unfold upd
  cases hb : Nat.beq j i
  · rfl
  · exact absurd (Nat.eq_of_beq_eq_true hb) h

def run1 (P : Program) (rc : Rec) (md : Md) (ops : Array Oper) (o : Oper) (t : T) (h : Heap) : Option (Value × Heap) :=
  bif aWanted ops t o then aOp P rc md t o h fun v h' => some (v, h') else some (undef, h)

variable {N : Nat} {ops : Array Oper}

theorem aOps_cons {K : T → Heap → Option α} {i : Nat} {rest : List Nat} {t : T} {h : Heap} {o : Oper} (ho : ops[i]? = some o) :
    aOps P rc md N ops K (i :: rest) t h = (run1 P rc md ops o t h).bind fun p => put N o.dst t p.1 fun t' => aOps P rc md N ops K rest t' p.2 := by
  simp only [aOps, ho, run1]
  cases hg : o.guard with
  | none =>
    have : aWanted ops t o = true := by simp [aWanted, hg]
    rw [this]
    simp only [cond_true]
    exact aOp_bind t o h _
  | some g => rfl

theorem aWanted_congr {t t' : T} {o : Oper} (hg : ∀ d, d ∈ o.looksAt ops → t d = t' d) : aWanted ops t o = aWanted ops t' o := by
  unfold aWanted
  split
  · rfl
  · rename_i j want hgd
    have : aYield ops t j = aYield ops t' j := by
      unfold aYield
      cases hj : ops[j]? with
      | none => rfl
      | some q =>
        cases hd : q.dst with
        | none => simp only [hd]
        | some d =>
          have : t d = t' d := hg d (by simp [Oper.looksAt, hgd, hj, hd])
          simp only [hd, this]
    rw [this]

theorem run1_congr {t t' : T} {o : Oper} (hg : ∀ d, d ∈ o.looksAt ops → t d = t' d) (h : Heap) : run1 P rc md ops o t h = run1 P rc md ops o t' h := by
  unfold run1
  rw [aWanted_congr hg]
  have : ∀ k : Value → Heap → Option (Value × Heap), aOp P rc md t o h k = aOp P rc md t' o h k := fun k => aOp_congr (fun x hx => by
    cases x with
    | tmp d => exact hg d (List.mem_append_left _ (List.mem_filterMap.2 ⟨.tmp d, hx, rfl⟩))
    | _ => rfl) h k
  rw [this]

/-- The calls that are said to leave memory alone do; those that are said to need nothing don't hang on it. -/
structure PureRec (cfg : Cfg) (rc : Rec) : Prop where
  pure : ∀ md g args h v h', 2 ≤ cfg g → rc md g args h = some (v, h') → h' = h
  free : ∀ g args, Nat.beq (cfg g) 3 = true → ∃ ov : Option Value, ∀ md h, rc md g args h = ov.map fun v => (v, h)

/-- An operation that leaves memory alone: what it answers, wherever it stands. -/
theorem still_op0 {cfg : Cfg} (hp : PureRec cfg rc) {o : Oper} (hs : stillOp P cfg o.op = true) (t : T) : ∃ ov : Option Value, ∀ h, (aOp0 P rc md t o h fun v h' => some (v, h')) = ov.map fun v => (v, h) := by
  have lift : ∀ (f : Heap → (Value → Option (Value × Heap)) → Option (Value × Heap)) (m : Option Value), (∀ h k, f h k = m.bind k) → ∃ ov : Option Value, ∀ h, f h (fun v => some (v, h)) = ov.map fun v => (v, h) :=
    fun f m hf => ⟨m, fun h => by rw [hf]; cases m <;> rfl⟩
  obtain ⟨dst, op, type, pos, after, guard⟩ := o
  unfold aOp0
  cases op <;> simp only [stillOp] at hs <;> (try (cases hs; done)) <;> simp only []
  case move x => exact ⟨some (ev t x), fun h => rfl⟩
  case assign x => exact ⟨some (ev t x), fun h => rfl⟩
  case pick c a b =>
    cases hc : ev t c <;> first | exact ⟨none, fun h => rfl⟩ | exact ⟨some _, fun h => rfl⟩
  case build ty ps => exact lift (fun h k => aBuild P ty _ k) _ fun h k => aBuild_bind _ _ _
  case nilCheck x =>
    cases hc : okNil P (ev t x)
    · exact ⟨none, fun h => rfl⟩
    · exact ⟨some _, fun h => rfl⟩
  case binOp op ty x y yt => exact lift (fun h k => aBin P op ty _ _ k) _ fun h k => aBin_bind _ _ _ _ _
  case unOp op ty x => exact lift (fun h k => aUn op _ k) _ fun h k => aUn_bind _ _ _
  case convert s d x =>
    have hs' : convMem P s = false := by simpa using hs
    simp only [hs', cond_false]
    exact lift (fun h k => aConv P s d _ k) _ fun h k => aConv_bind _ _ _ _
  case makeInterface ty x =>
    cases hu : P.underlying ty with
    | none => exact ⟨none, fun h => rfl⟩
    | some d => cases d <;> first | exact ⟨none, fun h => rfl⟩ | exact ⟨some _, fun h => rfl⟩
  case makeFunc fn fs cs => exact ⟨some _, fun h => rfl⟩
  case slice ty x lo hi mx => exact lift (fun h k => aSlice P ty _ _ _ _ k) _ fun h k => aSlice_bind _ _ _ _ _ _
  case fieldAddr ty x f => exact lift (fun h k => aFieldAddr P ty _ f k) _ fun h k => aFieldAddr_bind _ _ _ _
  case field ty x f => exact lift (fun h k => aField P ty _ f k) _ fun h k => aField_bind _ _ _ _
  case indexAddr ty x i => exact lift (fun h k => aIndexAddr P ty _ _ k) _ fun h k => aIndexAddr_bind _ _ _ _
  case index ty x i => exact lift (fun h k => aIndex P ty _ _ k) _ fun h k => aIndex_bind _ _ _ _
  case typeAssert x xt ty ok => exact lift (fun h k => aAssert P _ ty ok k) _ fun h k => aAssert_bind _ _ _ _
  case extract x i =>
    cases hc : ev t x <;> first | exact ⟨none, fun h => rfl⟩ | skip
    rename_i vs
    simp only []
    cases vs.toList[i]? with
    | none => exact ⟨none, fun h => rfl⟩
    | some v => exact ⟨some v, fun h => rfl⟩
  case call c =>
    obtain ⟨callee, args, argTypes⟩ := c
    cases callee <;> (try simp only [] at hs) <;> (try (cases hs; done))
    · rename_i f
      cases f <;> (try simp only [] at hs) <;> (try (cases hs; done))
      rename_i g
      obtain ⟨ov, hov⟩ := hp.free g (#[].toList ++ args.toList.map (ev t) ++ #[].toList) hs
      refine ⟨ov, fun h => ?_⟩
      simp only [aCall, ev, hov]
      cases ov <;> rfl
    rename_i b
    unfold aCall aBuiltin
    cases b <;> (try simp only [] at hs) <;> (try (cases hs; done)) <;> simp only []
    · rcases args.toList.map (ev t) with _ | ⟨x, _ | ⟨y, l⟩⟩
      · exact ⟨none, fun h => rfl⟩
      · simp only [Bool.not_eq_true'] at hs
        simp only [hs, cond_false]
        cases argTypes[0]? with
        | none => exact ⟨none, fun h => rfl⟩
        | some ty => exact lift (fun h k => aLen P ty x k) _ fun h k => aLen_bind _ _ _
      · exact ⟨none, fun h => rfl⟩
    · rcases args.toList.map (ev t) with _ | ⟨x, l⟩
      · exact ⟨none, fun h => rfl⟩
      · simp only []
        cases foldO aMax2 l x with
        | none => exact ⟨none, fun h => rfl⟩
        | some v => exact ⟨some v, fun h => rfl⟩
    · rcases args.toList.map (ev t) with _ | ⟨x, l⟩
      · exact ⟨none, fun h => rfl⟩
      · simp only []
        cases foldO aMin2 l x with
        | none => exact ⟨none, fun h => rfl⟩
        | some v => exact ⟨some v, fun h => rfl⟩

theorem still_op {cfg : Cfg} (hp : PureRec cfg rc) {o : Oper} (hs : stillOp P cfg o.op = true) (t : T) : ∃ ov : Option Value, ∀ h, (aOp P rc md t o h fun v h' => some (v, h')) = ov.map fun v => (v, h) := by
  obtain ⟨ov, hov⟩ := still_op0 (P := P) (rc := rc) (md := md) hp hs t
  cases hc : castOf o.op
  · exact ⟨ov, fun h => by unfold aOp; simp only [hc, cond_false]; exact hov h⟩
  · refine ⟨ov.bind fun v => castV P o.type v some, fun h => ?_⟩
    unfold aOp
    rw [aOp0_bind, hov]
    simp only [hc, cond_true]
    cases ov with
    | none => rfl
    | some v =>
      simp only [Option.map_some, Option.bind_some]
      have := castV_bind (P := P) o.type v some (fun v => some (v, h))
      simp only [Option.bind_some] at this
      rw [this]
      cases castV P o.type v some <;> rfl

theorem still_run {cfg : Cfg} (hp : PureRec cfg rc) {o : Oper} (hs : stillOp P cfg o.op = true) (t : T) : ∃ ov : Option Value, ∀ h, run1 P rc md ops o t h = ov.map fun v => (v, h) := by
  unfold run1
  cases aWanted ops t o
  · exact ⟨some undef, fun h => rfl⟩
  · exact still_op hp hs t

theorem read_run {cfg : Cfg} (hp : PureRec cfg rc) {o : Oper} (hs : readOp cfg o.op = true) (t : T) (h : Heap) : ∃ ov : Option Value, run1 P rc md ops o t h = ov.map fun v => (v, h) := by
  have main : ∃ ov : Option Value, (aOp0 P rc md t o h fun v h' => some (v, h')) = ov.map fun v => (v, h) := by
    obtain ⟨dst, op, type, pos, after, guard⟩ := o
    unfold aOp0
    cases op <;> simp only [readOp] at hs <;> (try (cases hs; done)) <;> simp only []
    case load ty x => rw [aLoad_bind]; cases aLoad P ty (ev t x) h some with
      | none => exact ⟨none, rfl⟩
      | some v => exact ⟨some v, rfl⟩
    case lookup ty x i ok => rw [aLookup_bind]; cases aLookup P ty (ev t x) (ev t i) ok h some with
      | none => exact ⟨none, rfl⟩
      | some v => exact ⟨some v, rfl⟩
    case call c =>
      obtain ⟨callee, args, argTypes⟩ := c
      cases callee <;> (try simp only [] at hs) <;> (try (cases hs; done))
      rename_i f
      cases f <;> (try simp only [] at hs) <;> (try (cases hs; done))
      rename_i g
      simp only [aCall, ev]
      cases hr : rc md g (#[].toList ++ args.toList.map (ev t) ++ #[].toList) h with
      | none => exact ⟨none, rfl⟩
      | some p =>
        obtain ⟨v, h'⟩ := p
        have := hp.pure md g _ h v h' (by simpa using hs) hr
        subst this
        exact ⟨some v, rfl⟩
  unfold run1
  cases aWanted ops t o
  · exact ⟨some undef, rfl⟩
  · simp only [cond_true]
    obtain ⟨ov, hov⟩ := main
    unfold aOp
    rw [aOp0_bind, hov]
    cases ov with
    | none => exact ⟨none, rfl⟩
    | some v =>
      simp only [Option.map_some, Option.bind_some]
      cases castOf o.op
      · exact ⟨some v, rfl⟩
      · simp only [cond_true]
        have := castV_bind (P := P) o.type v some (fun v => some (v, h))
        simp only [Option.bind_some] at this
        rw [this]
        exact ⟨castV P o.type v some, by cases castV P o.type v some <;> rfl⟩

/-- Two neighbours change places. -/
theorem aOps_swap {cfg : Cfg} (hp : PureRec cfg rc) {K : T → Heap → Option α} {i j : Nat} {oi oj : Oper} (hi : ops[i]? = some oi) (hj : ops[j]? = some oj) (hok : okPair P cfg ops oj oi = true)
    {rest : List Nat} {t : T} {h : Heap} {r : α} (hr : aOps P rc md N ops K (j :: i :: rest) t h = some r) : aOps P rc md N ops K (i :: j :: rest) t h = some r := by
  simp only [okPair, Bool.and_eq_true, Bool.or_eq_true] at hok
  obtain ⟨hcl, hap⟩ := hok
  obtain ⟨a1, a2, a3⟩ := Oper.apart_spec hap
  rw [aOps_cons hj] at hr
  rw [aOps_cons hi]
  -- what is put where nobody looks
  have look : ∀ {o : Oper} {d : Option Tmp} (t : T) (v : Value), (∀ x, d = some x → x ∉ o.looksAt ops) → ∀ t', put (α := T) N d t v some = some t' → ∀ h, run1 P rc md ops o t' h = run1 P rc md ops o t h := by
    intro o d t v hd t' ht h
    refine run1_congr (fun x hx => ?_) h
    unfold put at ht
    cases d with
    | none => cases ht; rfl
    | some y =>
      simp only at ht
      cases hb : Nat.blt y N <;> simp [hb] at ht
      subst ht
      have : x ≠ y := fun e => hd y rfl (e ▸ hx)
      exact upd_ne t v this
  have putb : ∀ {β : Type} (d : Option Tmp) (t : T) (v : Value) (k : T → Option β), put N d t v k = (put (α := T) N d t v some).bind k := by
    intro β d t v k
    unfold put
    cases d with
    | none => rfl
    | some y => simp only []; cases Nat.blt y N <;> rfl
  cases h1 : run1 P rc md ops oj t h with
  | none => simp [h1] at hr
  | some p =>
    obtain ⟨vj, hj'⟩ := p
    simp only [h1, Option.bind_some] at hr
    rw [putb] at hr
    cases h2 : put (α := T) N oj.dst t vj some with
    | none => simp [h2] at hr
    | some t1 =>
      simp only [h2, Option.bind_some] at hr
      rw [aOps_cons hi, look t vj a1 t1 h2] at hr
      cases h3 : run1 P rc md ops oi t hj' with
      | none => simp [h3] at hr
      | some q =>
        obtain ⟨vi, hi'⟩ := q
        simp only [h3, Option.bind_some] at hr
        rw [putb] at hr
        cases h4 : put (α := T) N oi.dst t1 vi some with
        | none => simp [h4] at hr
        | some t2 =>
          simp only [h4, Option.bind_some] at hr
          -- the other way round
          have first : ∃ hm, run1 P rc md ops oi t h = some (vi, hm) ∧ (∀ t', (∀ g, run1 P rc md ops oj t' g = run1 P rc md ops oj t g) → run1 P rc md ops oj t' hm = some (vj, hi')) := by
            rcases hcl with (hs | hs) | ⟨hs, hs'⟩
            · obtain ⟨ov, hov⟩ := still_run (P := P) (rc := rc) (md := md) (ops := ops) hp hs t
              rw [hov] at h1
              cases ov with
              | none => cases h1
              | some v =>
                cases h1
                exact ⟨hi', h3, fun t' ht => by rw [ht, hov]; rfl⟩
            · obtain ⟨ov, hov⟩ := still_run (P := P) (rc := rc) (md := md) (ops := ops) hp hs t
              rw [hov] at h3
              cases ov with
              | none => cases h3
              | some v =>
                cases h3
                exact ⟨h, by rw [hov]; rfl, fun t' ht => by rw [ht]; exact h1⟩
            · obtain ⟨ov, hov⟩ := read_run (P := P) (md := md) (ops := ops) hp hs t h
              rw [hov] at h1
              cases ov with
              | none => cases h1
              | some v =>
                cases h1
                obtain ⟨ov', hov'⟩ := read_run (P := P) (md := md) (ops := ops) hp hs' t h
                rw [hov'] at h3
                cases ov' with
                | none => cases h3
                | some v' =>
                  cases h3
                  exact ⟨h, by rw [hov']; rfl, fun t' ht => by rw [ht]; exact hov⟩
          obtain ⟨hm, f1, f3⟩ := first
          simp only [f1, Option.bind_some]
          rw [putb]
          -- the places are others
          have places : ∃ t1', put (α := T) N oi.dst t vi some = some t1' ∧ put (α := T) N oj.dst t1' vj some = some t2 := by
            unfold put at h2 h4 ⊢
            cases hdi : oi.dst with
            | none =>
              rw [hdi] at h4
              simp only at h4 ⊢; cases h4
              exact ⟨t, rfl, h2⟩
            | some x =>
              cases hdj : oj.dst with
              | none => rw [hdj] at h2; rw [hdi] at h4; simp only at h2 h4 ⊢; cases h2; exact ⟨t2, h4, rfl⟩
              | some y =>
                rw [hdj] at h2; rw [hdi] at h4; simp only at h2 h4 ⊢
                have hne : x ≠ y := fun e => a2 y hdj (by rw [hdi, e])
                cases hx : Nat.blt x N <;> simp [hx] at h4
                cases hy : Nat.blt y N <;> simp [hy] at h2
                subst h2; subst h4
                refine ⟨upd t x vi, by simp, ?_⟩
                simp only [cond_true]
                congr 1
                funext z
                by_cases e1 : z = x
                · subst e1; rw [upd_ne _ _ hne, upd_same, upd_same]
                · rw [upd_ne (upd t y vj) vi e1]
                  by_cases e2 : z = y
                  · subst e2; rw [upd_same, upd_same]
                  · rw [upd_ne _ _ e2, upd_ne _ _ e2, upd_ne _ _ e1]
          obtain ⟨t1', p1, p2⟩ := places
          rw [p1, Option.bind_some, aOps_cons hj]
          have hsame := look (o := oj) t vi (fun x hx => a3 x hx) t1' p1
          rw [f3 t1' hsame]
          simp only [Option.bind_some]
          rw [putb, p2, Option.bind_some]
          exact hr

end
end Go.Det
