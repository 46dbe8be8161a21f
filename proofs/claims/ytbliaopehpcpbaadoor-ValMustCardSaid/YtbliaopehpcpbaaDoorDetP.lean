/- From a law's arguments to the frame's heap, and from the frame's answer to the law's row. -/
import Derived.Test.YtbliaopehpcpbaaDoorDetN
import Derived.ProofKit
import Derived.SizedLaws
set_option autoImplicit false
set_option linter.unusedVariables false
set_option linter.unusedSimpArgs false
set_option linter.unusedSectionVars false
namespace Go.Det
open Go.RowKit (Below)

/-- The shapes of a value's cells. -/
inductive CS where
  | i (k : IntKind)
  | b
  | s
  | sl (l : List CS)

def repS (n : Nat) (l : List CS) : List CS :=
  match n with
  | 0 => []
  | n + 1 => l ++ repS n l

def fieldShapes (P : Program) (f : TypeId → Option (List CS)) : List Field → Nat → Option (List CS)
  | [], _ => some []
  | fd :: fs, n =>
    if fd.offset = n then
      (match f fd.type with
      | some l => if l.length = P.cellsOf fd.type then (match fieldShapes P f fs (n + l.length) with | some r => some (l ++ r) | none => none) else none
      | none => none)
    else none

def shapesOf (P : Program) : Nat → TypeId → Option (List CS)
  | 0, _ => none
  | d + 1, ty =>
    match P.underlying ty with
    | some .bool => some [.b]
    | some (.int k) => some [.i k]
    | some .string => some [.s]
    | some (.slice e) => (match shapesOf P d e with | some l => if l.length = P.cellsOf e ∧ 0 < l.length then some [.sl l] else none | none => none)
    | some (.struct fs) => (match fieldShapes P (shapesOf P d) fs.toList 0 with | some l => if l.length = P.cellsOf ty then some l else none | none => none)
    | some (.array n e) => (match shapesOf P d e with | some l => if l.length = P.cellsOf e ∧ n * l.length = P.cellsOf ty then some (repS n l) else none | none => none)
    | _ => none

mutual
/-- A cell of a shape, in a heap of the frame. -/
inductive TyS (h : Heap) : CS → Value → Prop
  | i (k : IntKind) (n : Int) (hw : (Lit.int k n).wf = true) : TyS h (.i k) (.int k n)
  | b (b : Bool) : TyS h .b (.bool b)
  | s (s : ByteArray) (hs : s.size ≤ reachBytes) : TyS h .s (.string s)
  | nil (l : List CS) : TyS h (.sl l) (.slice none 0 0)
  | sl (l : List CS) (b : Nat) (ess : List (List Value)) (hb : h[b]? = some (.ro ess.flatten)) (hn : ess.length ≤ maxLen) (he : TyE h l ess) : TyS h (.sl l) (.slice (some ⟨b, 0, none⟩) ess.length l.length)
inductive TyL (h : Heap) : List CS → List Value → Prop
  | nil : TyL h [] []
  | cons (c : CS) (cs : List CS) (v : Value) (vs : List Value) (h1 : TyS h c v) (h2 : TyL h cs vs) : TyL h (c :: cs) (v :: vs)
inductive TyE (h : Heap) : List CS → List (List Value) → Prop
  | nil (l : List CS) : TyE h l []
  | cons (l : List CS) (es : List Value) (ess : List (List Value)) (h1 : TyL h l es) (h2 : TyE h l ess) : TyE h l (es :: ess)
end

theorem TyL.len {h : Heap} : ∀ {l : List CS} {vs : List Value}, TyL h l vs → vs.length = l.length
  | _, _, .nil => rfl
  | _, _, .cons _ _ _ _ _ h2 => by simp [TyL.len h2]

theorem TyE.all {h : Heap} {l : List CS} : ∀ {ess : List (List Value)}, TyE h l ess → ∀ es ∈ ess, TyL h l es
  | _, .nil _, _, hm => by simp at hm
  | _, .cons _ es ess h1 h2, es', hm => by
    rcases List.mem_cons.1 hm with rfl | hm
    · exact h1
    · exact TyE.all h2 _ hm

theorem TyL.append {h : Heap} {b b' : List CS} {d : List Value} {d' : List Value} (k : TyL h b d) (k' : TyL h b' d') : TyL h (b ++ b') (d ++ d') := by
  induction b generalizing d with
  | nil => cases k; exact k'
  | cons c b ih => cases k with
    | cons _ _ v vs h1 h2 => exact .cons c _ v _ h1 (ih h2)

mutual
theorem TyS.mono {h g : Heap} : ∀ {c : CS} {v : Value}, TyS h c v → TyS (h ++ g) c v
  | _, _, .i k n hw => .i k n hw
  | _, _, .b b => .b b
  | _, _, .s s hs => .s s hs
  | _, _, .nil l => .nil l
  | _, _, .sl l b ess hb hn he => .sl l b ess (by rw [List.getElem?_append_left (List.getElem?_eq_some_iff.1 hb).1]; exact hb) hn (TyE.mono he)
theorem TyL.mono {h g : Heap} : ∀ {l : List CS} {vs : List Value}, TyL h l vs → TyL (h ++ g) l vs
  | _, _, .nil => .nil
  | _, _, .cons c cs v vs h1 h2 => .cons c cs v vs (TyS.mono h1) (TyL.mono h2)
theorem TyE.mono {h g : Heap} : ∀ {l : List CS} {vs : List (List Value)}, TyE h l vs → TyE (h ++ g) l vs
  | _, _, .nil l => .nil l
  | _, _, .cons l es ess h1 h2 => .cons l es ess (TyL.mono h1) (TyE.mono h2)
end

/-- What a value weighs is within reach. -/
def Wt {H : Type} (P : Program) (t : TypeId) (d : DataW H) : Prop := ∀ n ∈ d.weights P t, n ≤ reachBytes

theorem wt_all {H α γ : Type} {P : Program} {e : TypeId} {f : γ → Option (DataW H × α)} : ∀ {is : List γ} {l : List (DataW H × α)}, is.mapM f = some l → (∀ n ∈ DataW.weightsAll P e (l.map (·.1)), n ≤ reachBytes) →
    l.length = is.length ∧ ∀ i ∈ is, ∃ x, f i = some x ∧ Wt P e x.1
  | [], l, h, _ => by simp at h; subst h; exact ⟨rfl, fun i hi => by simp at hi⟩
  | j :: is, l, h, hw => by
    rw [List.mapM_cons] at h
    simp only [bind, Option.bind_eq_some_iff, pure, Option.some.injEq] at h
    obtain ⟨x, hx, l', hl', rfl⟩ := h
    simp only [List.map_cons, DataW.weightsAll, List.mem_append] at hw
    obtain ⟨g1, g2⟩ := wt_all hl' fun n hn => hw n (.inr hn)
    refine ⟨by simp [g1], fun i hi => ?_⟩
    rcases List.mem_cons.1 hi with rfl | hi
    · exact ⟨x, hx, fun n hn => hw n (.inl hn)⟩
    · exact g2 i hi

theorem wt_each {H α γ : Type} {P : Program} {ty : γ → TypeId} {f : γ → Option (DataW H × α)} : ∀ {is : List γ} {l : List (DataW H × α)}, is.mapM f = some l → (∀ n ∈ DataW.weightsEach P (is.map ty) (l.map (·.1)), n ≤ reachBytes) →
    ∀ i ∈ is, ∃ x, f i = some x ∧ Wt P (ty i) x.1
  | [], _, _, _, i, hi => by simp at hi
  | j :: is, l, h, hw, i, hi => by
    rw [List.mapM_cons] at h
    simp only [bind, Option.bind_eq_some_iff, pure, Option.some.injEq] at h
    obtain ⟨x, hx, l', hl', rfl⟩ := h
    simp only [List.map_cons, DataW.weightsEach, List.mem_append] at hw
    rcases List.mem_cons.1 hi with rfl | hi
    · exact ⟨x, hx, fun n hn => hw n (.inl hn)⟩
    · exact wt_each hl' (fun n hn => hw n (.inr hn)) i hi

theorem wt_pre {H : Type} {P : Program} : ∀ {ts us : List TypeId} {ds gs : List (DataW H)}, ∀ n ∈ DataW.weightsEach P ts ds, n ∈ DataW.weightsEach P (ts ++ us) (ds ++ gs)
  | [], _, _, _, n, hn => by simp [DataW.weightsEach] at hn
  | _ :: _, _, [], _, n, hn => by simp [DataW.weightsEach] at hn
  | t :: ts, us, d :: ds, gs, n, hn => by
    simp only [DataW.weightsEach, List.mem_append, List.cons_append] at hn ⊢
    rcases hn with hn | hn
    · exact .inl hn
    · exact .inr (wt_pre n hn)

variable [Gl] {P : Program} {base : Nat} {β : Nat → Nat} {W : World} {H : Type} {enc : TypeId × Value → H}

/-- A read-only block for cells of the model's. -/
theorem HR.readonly {ρ : Ren} {h : Heap} (R : HR base ρ β 0 h W) {cs ccs : List Value} {blk off avail : Nat} (hl : LRel ρ h.length cs ccs)
    (hw : cs ≠ [] → blk < base ∧ ∃ arr e fz, W.heap[blk]? = some (.cells arr e fz) ∧ ∀ (j : Nat) c, ccs[j]? = some c → arr[off + j]? = some c) :
    let ρ' : Ren := fun b => if b = h.length then ⟨blk, off, avail⟩ else ρ b
    HR base ρ' β 0 (h ++ [.ro cs]) W ∧ ∀ b, b < h.length → ρ' b = ρ b := by
  intro ρ'
  have hr : ∀ b, b < h.length → ρ' b = ρ b := fun b hb => by show (if _ then _ else _) = _; rw [if_neg (by omega)]
  have hn : ρ' h.length = ⟨blk, off, avail⟩ := if_pos rfl
  have old : ∀ {b k}, (h ++ [Blk.ro cs])[b]? = some k → (b < h.length ∧ h[b]? = some k) ∨ (b = h.length ∧ k = .ro cs) := by
    intro b k hk
    by_cases hb : b < h.length
    · rw [List.getElem?_append_left hb] at hk; exact .inl ⟨hb, hk⟩
    · rw [List.getElem?_append_right (by omega)] at hk
      have : b - h.length = 0 := by
        rcases Nat.eq_zero_or_pos (b - h.length) with h0 | h0
        · exact h0
        · rw [List.getElem?_eq_none (by simp; omega)] at hk; cases hk
      rw [this] at hk; simp at hk
      exact .inr ⟨by omega, hk.symm⟩
  have hbd : ∀ (g : Heap) b, bd β 0 g b = g.length := fun g b => by simp [bd]
  have mono : ∀ {v c}, VRel ρ h.length v c → VRel ρ' (h ++ [Blk.ro cs]).length v c := fun hv => hv.mono (by simp) hr
  refine ⟨⟨by simp, fun b hb => by omega, R.base_le, ?_, ?_, ?_, R.mp.sub id (fun b kk ho hb => by
      rcases old hb with ⟨hlt, hk⟩ | ⟨_, hk⟩
      · exact ⟨hk, hr b hlt⟩
      · subst hk; cases ho) (fun _ _ _ _ _ _ hw => hw) (fun b kd es hb l hl => by
      rcases old hb with ⟨hlt, _⟩ | ⟨_, hk⟩
      · rw [hbd] at hl ⊢; exact hl.mono (by simp) hr
      · cases hk)⟩, hr⟩
  · intro b cs' hb hne
    rcases old hb with ⟨hlt, hk⟩ | ⟨rfl, hk⟩
    · rw [hr b hlt]
      obtain ⟨h1, arr', e', fz', h2, h3⟩ := R.ro b cs' hk hne
      refine ⟨h1, arr', e', fz', h2, fun i v hv => ?_⟩
      obtain ⟨c, g1, g2⟩ := h3 i v hv
      rw [hbd] at g2 ⊢
      exact ⟨c, g1, mono g2⟩
    · cases hk
      rw [hn]
      obtain ⟨hblk, arr, e, fz, hw', hcells⟩ := hw hne
      refine ⟨hblk, arr, e, fz, hw', fun i v hv => ?_⟩
      obtain ⟨c, g1, g2⟩ := hl.get hv
      rw [hbd]
      exact ⟨c, hcells i c g1, mono g2⟩
  · intro b cs' hb
    rcases old hb with ⟨hlt, hk⟩ | ⟨rfl, hk⟩
    · rw [hr b hlt]
      obtain ⟨h1, arr', e', h2, h3, h4, h5⟩ := R.own b cs' hk
      refine ⟨h1, arr', e', h2, h3, h4, fun i v hv => ?_⟩
      obtain ⟨c, g1, g2⟩ := h5 i v hv
      rw [hbd] at g2 ⊢
      exact ⟨c, g1, mono g2⟩
    · cases hk
  · intro b b' c1 c2 h1 h2 hne
    rcases old h1 with ⟨hlt, hk⟩ | ⟨rfl, hk⟩ <;> rcases old h2 with ⟨hlt', hk'⟩ | ⟨rfl, hk'⟩
    · rw [hr b hlt, hr b' hlt']; exact R.apart b b' c1 c2 hk hk' hne
    · cases hk'
    · cases hk
    · cases hk

/-- What the frame makes of cells that read. -/
def Got (base : Nat) (β : Nat → Nat) (W : World) (ρ : Ren) (h : Heap) (l : List CS) (ccs : List Value) : Prop :=
  ∃ ρ' g acs, HR base ρ' β 0 (h ++ g) W ∧ (∀ b, b < h.length → ρ' b = ρ b) ∧ LRel ρ' (h ++ g).length acs ccs ∧ TyL (h ++ g) l acs

theorem Got.append {l l' : List CS} {ccs ccs' : List Value} {ρ : Ren} {h : Heap} (h1 : Got base β W ρ h l ccs) (h2 : ∀ ρ h, HR base ρ β 0 h W → Got base β W ρ h l' ccs') : Got base β W ρ h (l ++ l') (ccs ++ ccs') := by
  obtain ⟨ρ1, g1, a1, r1, e1, l1, t1⟩ := h1
  obtain ⟨ρ2, g2, a2, r2, e2, l2, t2⟩ := h2 ρ1 (h ++ g1) r1
  refine ⟨ρ2, g1 ++ g2, a1 ++ a2, ?_, fun b hb => (e2 b (by simp; omega)).trans (e1 b hb), ?_, ?_⟩
  · rw [← List.append_assoc]; exact r2
  · rw [← List.append_assoc]; exact (l1.mono (by simp) e2).append l2
  · rw [← List.append_assoc]; exact t1.mono.append t2

theorem mapM_range_get {α : Type} {f : Nat → Option α} {n : Nat} {l : List α} (h : (List.range n).mapM f = some l) : l.length = n ∧ ∀ i, i < n → ∃ x, f i = some x := by
  have key : ∀ (is : List Nat) (l : List α), is.mapM f = some l → l.length = is.length ∧ ∀ i ∈ is, ∃ x, f i = some x := by
    intro is
    induction is with
    | nil => intro l h; simp at h; subst h; exact ⟨rfl, fun i hi => by simp at hi⟩
    | cons j is ih =>
      intro l h
      rw [List.mapM_cons] at h
      simp only [bind, Option.bind_eq_some_iff, pure, Option.some.injEq] at h
      obtain ⟨x, hx, l', hl', rfl⟩ := h
      obtain ⟨g1, g2⟩ := ih l' hl'
      refine ⟨by simp [g1], fun i hi => ?_⟩
      rcases List.mem_cons.1 hi with rfl | hi
      · exact ⟨x, hx⟩
      · exact g2 i hi
  obtain ⟨h1, h2⟩ := key _ _ h
  exact ⟨by simpa using h1, fun i hi => h2 i (by simpa using hi)⟩

theorem mapM_get {α γ : Type} {f : γ → Option α} : ∀ {is : List γ} {l : List α}, is.mapM f = some l → ∀ i ∈ is, ∃ x, f i = some x
  | [], _, _, i, hi => by simp at hi
  | j :: is, l, h, i, hi => by
    rw [List.mapM_cons] at h
    simp only [bind, Option.bind_eq_some_iff, pure, Option.some.injEq] at h
    obtain ⟨x, hx, l', hl', rfl⟩ := h
    rcases List.mem_cons.1 hi with rfl | hi
    · exact ⟨x, hx⟩
    · exact mapM_get hl' i hi

theorem cells?_get {a : Addr} {n : Nat} {cs : List Value} (h : W.cells? 0 a n = some cs) : cs.length = n ∧ ∀ (j : Nat) c, cs[j]? = some c → W.cell? (a.add j) = some c := by
  unfold World.cells? at h
  simp only [Nat.zero_le, if_true] at h
  have key : ∀ (is : List Nat) (cs : List Value), is.mapM (fun i => W.cell? (a.add i)) = some cs → cs.length = is.length ∧ ∀ (j : Nat) c i, is[j]? = some i → cs[j]? = some c → W.cell? (a.add i) = some c := by
    intro is
    induction is with
    | nil => intro cs h; simp at h; subst h; exact ⟨rfl, fun j c i h => by simp at h⟩
    | cons i is ih =>
      intro cs h
      rw [List.mapM_cons] at h
      simp only [bind, Option.bind_eq_some_iff, pure, Option.some.injEq] at h
      obtain ⟨x, hx, l', hl', rfl⟩ := h
      obtain ⟨g1, g2⟩ := ih l' hl'
      refine ⟨by simp [g1], fun j c i' h1 h2 => ?_⟩
      cases j with
      | zero => simp at h1 h2; subst h1; subst h2; exact hx
      | succ j => exact g2 j c i' (by simpa using h1) (by simpa using h2)
  obtain ⟨h1, h2⟩ := key _ _ h
  refine ⟨by simpa using h1, fun j c hj => h2 j c j ?_ hj⟩
  have : j < n := by have := (List.getElem?_eq_some_iff.1 hj).1; rw [h1] at this; simpa using this
  simp [this]

theorem cell?_block {a : Addr} {c : Value} (h : W.cell? a = some c) : ∃ arr e fz, W.heap[a.block]? = some (.cells arr e fz) ∧ a.spot = none ∧ arr[a.off]? = some c := by
  unfold World.cell? at h
  split at h
  · rename_i arr e fz hb
    cases hs : a.spot with
    | some x => simp [hs] at h
    | none => simp [hs] at h; exact ⟨arr, e, fz, hb, rfl, by simpa using h⟩
  · cases h

theorem add_spot (a : Addr) (n : Nat) (hs : a.spot = none) : a.add n = ⟨a.block, a.off + n, none⟩ := by
  obtain ⟨b, o, s⟩ := a
  simp only at hs; subst hs
  exact Addr.add_lit b o n

/-- The elements of a slice that came in. -/
theorem got_elems {a : Addr} {size fuel : Nat} {e : TypeId} {l : List CS} (hsize : l.length = size)
    (ih : ∀ ccs d ps, DataW.trod enc P W 0 (fun _ => true) true fuel e ccs = some (d, ps) → Wt P e d → ∀ ρ h, HR base ρ β 0 h W → Got base β W ρ h l ccs) :
    ∀ (len k : Nat) (ρ : Ren) (h : Heap), HR base ρ β 0 h W →
      (∀ i, i < len → ∃ x, (W.cells? 0 (a.add ((k + i) * size)) size).bind (DataW.trod enc P W 0 (fun _ => true) true fuel e) = some x ∧ Wt P e x.1) →
      ∃ ρ' g ess ccs, HR base ρ' β 0 (h ++ g) W ∧ (∀ b, b < h.length → ρ' b = ρ b) ∧ ess.length = len ∧ LRel ρ' (h ++ g).length ess.flatten ccs ∧ TyE (h ++ g) l ess ∧
        (∀ (j : Nat) c, ccs[j]? = some c → ∃ i q, i < len ∧ q < size ∧ j = i * size + q ∧ W.cell? ((a.add ((k + i) * size)).add q) = some c) ∧ ccs.length = len * size := by
  intro len
  induction len with
  | zero =>
    intro k ρ h R _
    exact ⟨ρ, [], [], [], by simpa using R, fun _ _ => rfl, rfl, LRel.nil, .nil l, fun j c hj => by simp at hj, by simp⟩
  | succ len ihl =>
    intro k ρ h R hx
    obtain ⟨x, hx0, hw0⟩ := hx 0 (by omega)
    simp only [Option.bind_eq_some_iff] at hx0
    obtain ⟨cs0, hc0, ht0⟩ := hx0
    obtain ⟨hl0, hg0⟩ := cells?_get hc0
    obtain ⟨d, ps⟩ := x
    obtain ⟨ρ1, g1, a1, r1, e1, l1, t1⟩ := ih cs0 d ps ht0 hw0 ρ h R
    obtain ⟨ρ2, g2, ess, ccs, r2, e2, n2, l2, t2, c2, z2⟩ := ihl (k + 1) ρ1 (h ++ g1) r1 (fun i hi => by
      have := hx (i + 1) (by omega)
      rwa [show k + (i + 1) = k + 1 + i by omega] at this)
    refine ⟨ρ2, g1 ++ g2, a1 :: ess, cs0 ++ ccs, ?_, fun b hb => (e2 b (by simp; omega)).trans (e1 b hb), by simp [n2], ?_, ?_, ?_, ?_⟩
    · rw [← List.append_assoc]; exact r2
    · rw [← List.append_assoc, List.flatten_cons]; exact (l1.mono (by simp) e2).append l2
    · rw [← List.append_assoc]; exact .cons l a1 ess t1.mono t2
    · intro j c hj
      by_cases hjl : j < cs0.length
      · rw [List.getElem?_append_left hjl] at hj
        exact ⟨0, j, by omega, by omega, by simp, hg0 j c hj⟩
      · rw [List.getElem?_append_right (by omega)] at hj
        obtain ⟨i, q, h1, h2, h3, h4⟩ := c2 _ c hj
        refine ⟨i + 1, q, by omega, h2, by rw [Nat.add_mul]; omega, ?_⟩
        rwa [show k + (i + 1) = k + 1 + i by omega]
    · simp [z2, hl0, Nat.add_mul, Nat.add_comm]

theorem got_fields {fuel d0 : Nat} (ih : ∀ ty l, shapesOf P d0 ty = some l → ∀ ccs d ps, DataW.trod enc P W 0 (fun _ => true) true fuel ty ccs = some (d, ps) → Wt P ty d → ∀ ρ h, HR base ρ β 0 h W → Got base β W ρ h l ccs)
    (CS0 : List Value) : ∀ (fs : List Field) (n : Nat) (l : List CS), fieldShapes P (shapesOf P d0) fs n = some l → CS0.length = n + l.length →
      (∀ f ∈ fs, ∃ x, DataW.trod enc P W 0 (fun _ => true) true fuel f.type ((CS0.drop f.offset).take (P.cellsOf f.type)) = some x ∧ Wt P f.type x.1) →
      ∀ ρ h, HR base ρ β 0 h W → Got base β W ρ h l (CS0.drop n) := by
  intro fs
  induction fs with
  | nil =>
    intro n l hl hlen _ ρ h R
    simp only [fieldShapes] at hl; cases hl
    rw [List.drop_eq_nil_of_le (by simp at hlen; omega)]
    exact ⟨ρ, [], [], by simpa using R, fun _ _ => rfl, LRel.nil, .nil⟩
  | cons fd fs ihf =>
    intro n l hl hlen hall ρ h R
    simp only [fieldShapes] at hl
    split at hl
    · rename_i hoff
      split at hl
      · rename_i l1 hl1
        split at hl
        · rename_i hsz
          split at hl
          · rename_i l2 hl2
            cases hl
            rw [List.length_append] at hlen
            have hsplit : CS0.drop n = (CS0.drop n).take l1.length ++ CS0.drop (n + l1.length) := by rw [← List.drop_drop, List.take_append_drop]
            rw [hsplit]
            obtain ⟨⟨d, ps⟩, hx, hwt⟩ := hall fd (by simp)
            rw [hoff, ← hsz] at hx
            exact (ih fd.type l1 hl1 _ d ps hx hwt ρ h R).append fun ρ' h' R' => ihf (n + l1.length) l2 hl2 (by omega) (fun f hf => hall f (by simp [hf])) ρ' h' R'
          · cases hl
        · cases hl
      · cases hl
    · cases hl

theorem got_items {fuel : Nat} {e : TypeId} {l : List CS} (hsz : l.length = P.cellsOf e)
    (ih : ∀ ccs d ps, DataW.trod enc P W 0 (fun _ => true) true fuel e ccs = some (d, ps) → Wt P e d → ∀ ρ h, HR base ρ β 0 h W → Got base β W ρ h l ccs) (CS0 : List Value) :
    ∀ (m s : Nat), CS0.length = (s + m) * l.length → (∀ i, s ≤ i → i < s + m → ∃ x, DataW.trod enc P W 0 (fun _ => true) true fuel e ((CS0.drop (i * P.cellsOf e)).take (P.cellsOf e)) = some x ∧ Wt P e x.1) →
      ∀ ρ h, HR base ρ β 0 h W → Got base β W ρ h (repS m l) (CS0.drop (s * l.length)) := by
  intro m
  induction m with
  | zero =>
    intro s hlen _ ρ h R
    rw [List.drop_eq_nil_of_le (by simp at hlen; omega)]
    exact ⟨ρ, [], [], by simpa using R, fun _ _ => rfl, LRel.nil, .nil⟩
  | succ m ihm =>
    intro s hlen hall ρ h R
    have hsplit : CS0.drop (s * l.length) = (CS0.drop (s * l.length)).take l.length ++ CS0.drop ((s + 1) * l.length) := by
      rw [show (s + 1) * l.length = s * l.length + l.length by rw [Nat.add_mul]; omega, ← List.drop_drop, List.take_append_drop]
    rw [hsplit]
    obtain ⟨⟨d, ps⟩, hx, hwt⟩ := hall s (by omega) (by omega)
    rw [← hsz] at hx
    exact (ih _ d ps hx hwt ρ h R).append fun ρ' h' R' => ihm (s + 1) (by rw [hlen]; congr 1; omega) (fun i h1 h2 => hall i (by omega) (by omega)) ρ' h' R'

theorem trod_slice_inv {fuel : Nat} {ty e : TypeId} {ccs : List Value} {x : DataW H × List MemPlace} (hu : P.underlying ty = some (.slice e)) (ht : DataW.trod enc P W 0 (fun _ => true) true (fuel + 1) ty ccs = some x) (hwt : Wt P ty x.1) :
    ccs = [.slice none 0 0] ∨ ∃ a len cap, ccs = [.slice (some a) len cap] ∧ len ≤ cap ∧ cap ≤ maxLen ∧
      ∀ i, i < cap → ∃ x, (W.cells? 0 (a.add (i * P.cellsOf e)) (P.cellsOf e)).bind (DataW.trod enc P W 0 (fun _ => true) true fuel e) = some x ∧ Wt P e x.1 := by
  rcases ccs with _ | ⟨v, _ | ⟨v2, l⟩⟩
  · simp [DataW.trod, hu] at ht
  · cases v <;> (try (simp [DataW.trod, hu] at ht; done))
    rename_i a len cap
    cases a with
    | none => cases len <;> cases cap <;> first | exact .inl rfl | (simp [DataW.trod, hu] at ht; done)
    | some a =>
      simp only [DataW.trod, hu] at ht
      split at ht
      · rename_i hb
        obtain ⟨_, hlc, hcm⟩ := hb
        simp only [Option.bind_eq_some_iff, Option.map_eq_some_iff] at ht
        obtain ⟨elems, he, rest, hr, hxe⟩ := ht
        simp only [if_true] at hr
        subst hxe
        simp only [Wt, DataW.weights, hu, List.mem_cons, List.mem_append] at hwt
        obtain ⟨_, heg⟩ := wt_all he fun n hn => hwt n (.inr (.inl hn))
        obtain ⟨_, hrg⟩ := wt_all hr fun n hn => hwt n (.inr (.inr hn))
        refine .inr ⟨a, len, cap, rfl, hlc, hcm, fun i hi => ?_⟩
        by_cases hil : i < len
        · exact heg i (by simpa using hil)
        · have := hrg (i - len) (by simp; omega)
          rwa [show len + (i - len) = i by omega] at this
      · cases ht
  · cases v <;> simp [DataW.trod, hu] at ht

theorem trod_struct_inv {fuel : Nat} {ty : TypeId} {fs : Array Field} {ccs : List Value} {x : DataW H × List MemPlace} (hu : P.underlying ty = some (.struct fs))
    (ht : DataW.trod enc P W 0 (fun _ => true) true (fuel + 1) ty ccs = some x) (hwt : Wt P ty x.1) :
    ccs.length = P.cellsOf ty ∧ ∀ f ∈ fs.toList, ∃ x, DataW.trod enc P W 0 (fun _ => true) true fuel f.type ((ccs.drop f.offset).take (P.cellsOf f.type)) = some x ∧ Wt P f.type x.1 := by
  simp only [DataW.trod, hu] at ht
  split at ht
  · rename_i hl
    simp only [Option.map_eq_some_iff] at ht
    obtain ⟨xs, hx, hxe⟩ := ht
    subst hxe
    simp only [Wt, DataW.weights, hu] at hwt
    exact ⟨hl, wt_each (ty := fun f => f.type) hx hwt⟩
  · cases ht

theorem trod_array_inv {fuel : Nat} {ty e : TypeId} {n : Nat} {ccs : List Value} {x : DataW H × List MemPlace} (hu : P.underlying ty = some (.array n e))
    (ht : DataW.trod enc P W 0 (fun _ => true) true (fuel + 1) ty ccs = some x) (hwt : Wt P ty x.1) :
    ccs.length = P.cellsOf ty ∧ ∀ i, i < n → ∃ x, DataW.trod enc P W 0 (fun _ => true) true fuel e ((ccs.drop (i * P.cellsOf e)).take (P.cellsOf e)) = some x ∧ Wt P e x.1 := by
  simp only [DataW.trod, hu] at ht
  split at ht
  · rename_i hl
    simp only [Option.map_eq_some_iff] at ht
    obtain ⟨xs, hx, hxe⟩ := ht
    subst hxe
    simp only [Wt, DataW.weights, hu] at hwt
    exact ⟨hl, fun i hi => (wt_all hx hwt).2 i (by simpa using hi)⟩
  · cases ht

/-- Whatever reads, the frame has. -/
theorem got (hbase : W.heap.size ≤ base) : ∀ (d0 : Nat) (ty : TypeId) (l : List CS), shapesOf P d0 ty = some l → ∀ (fuel : Nat) (ccs : List Value) (d : DataW H) (ps : List MemPlace),
    DataW.trod enc P W 0 (fun _ => true) true fuel ty ccs = some (d, ps) → Wt P ty d → ∀ ρ h, HR base ρ β 0 h W → Got base β W ρ h l ccs := by
  intro d0
  induction d0 with
  | zero => intro ty l hl; simp [shapesOf] at hl
  | succ d0 ih =>
    intro ty l hl fuel ccs d ps ht hwt ρ h R
    cases fuel with
    | zero => simp [DataW.trod] at ht
    | succ fuel =>
    have one : ∀ (v : Value) (c : CS), scalar v = true → (∀ g, TyS g c v) → Got base β W ρ h [c] [v] := fun v c hs hty =>
      ⟨ρ, [], [v], by simpa using R, fun _ _ => rfl, LRel.cons (.sc v hs) LRel.nil, .cons c [] v [] (hty _) .nil⟩
    simp only [shapesOf] at hl
    split at hl
    · rename_i hu
      cases hl
      rcases ccs with _ | ⟨v, _ | ⟨v2, l⟩⟩
      · simp [DataW.trod, hu] at ht
      · cases v <;> (try (simp [DataW.trod, hu] at ht; done))
        exact one _ _ rfl fun g => .b _
      · cases v <;> simp [DataW.trod, hu] at ht
    · rename_i k hu
      cases hl
      rcases ccs with _ | ⟨v, _ | ⟨v2, l⟩⟩
      · simp [DataW.trod, hu] at ht
      · cases v <;> (try (simp [DataW.trod, hu] at ht; done))
        simp only [DataW.trod, hu] at ht
        split at ht
        · rename_i hk
          obtain ⟨rfl, hw⟩ := hk
          exact one _ _ rfl fun g => .i _ _ hw
        · cases ht
      · cases v <;> simp [DataW.trod, hu] at ht
    · rename_i hu
      cases hl
      rcases ccs with _ | ⟨v, _ | ⟨v2, l⟩⟩
      · simp [DataW.trod, hu] at ht
      · cases v <;> (try (simp [DataW.trod, hu] at ht; done))
        simp only [DataW.trod, hu] at ht
        split at ht
        · rename_i hk
          simp only [Option.some.injEq, Prod.mk.injEq] at ht
          obtain ⟨rfl, _⟩ := ht
          exact one _ _ rfl fun g => .s _ (hwt _ (by simp [DataW.weights]))
        · cases ht
      · cases v <;> simp [DataW.trod, hu] at ht
    · rename_i e hu
      split at hl
      · rename_i le hle
        split at hl
        · rename_i hsz
          obtain ⟨hsz, hpos⟩ := hsz
          cases hl
          rcases trod_slice_inv hu ht hwt with rfl | ⟨a, len, cap, rfl, hlc, hcm, hall⟩
          · exact one _ _ rfl fun g => .nil _
          · obtain ⟨ρ1, g1, ess, cel, r1, e1, n1, l1, t1, c1, z1⟩ := got_elems (size := P.cellsOf e) (fuel := fuel) (e := e) hsz (fun ccs d ps h' w' => ih e le hle fuel ccs d ps h' w') len 0 ρ h R
              (fun i hi => by simpa using hall i (by omega))
            have hblk : ∀ i, i < cap → ∃ arr ty fz, W.heap[a.block]? = some (.cells arr ty fz) ∧ a.spot = none := by
              intro i hi
              obtain ⟨x, hx, _⟩ := hall 0 (by omega)
              simp only [Option.bind_eq_some_iff] at hx
              obtain ⟨cs0, hc0, _⟩ := hx
              obtain ⟨hl0, hg0⟩ := cells?_get hc0
              have hne : 0 < cs0.length := by rw [hl0]; omega
              have := hg0 0 _ (List.getElem?_eq_getElem hne)
              simp only [Nat.zero_mul, Addr.add_zero'] at this
              obtain ⟨arr, ty, fz, q1, q2, _⟩ := cell?_block this
              exact ⟨arr, ty, fz, q1, q2⟩
            obtain ⟨r2, e2⟩ := r1.readonly (cs := ess.flatten) (ccs := cel) (blk := a.block) (off := a.off) (avail := cap * P.cellsOf e) l1 (fun hne => by
              have hlen : 0 < len := by
                rcases Nat.eq_zero_or_pos len with h0 | h0
                · subst h0
                  have : ess = [] := List.length_eq_zero_iff.1 n1
                  subst this; exact absurd rfl hne
                · exact h0
              obtain ⟨arr, ty, fz, q1, q2⟩ := hblk 0 (by omega)
              refine ⟨Nat.lt_of_lt_of_le (Array.getElem?_eq_some_iff.1 q1).1 hbase, arr, ty, fz, q1, fun j c hj => ?_⟩
              obtain ⟨i, q, hi, hq, rfl, hcell⟩ := c1 j c hj
              rw [add_spot a _ q2, add_spot _ _ rfl] at hcell
              obtain ⟨arr', ty', fz', p1, _, p3⟩ := cell?_block hcell
              simp only at p1 p3
              rw [q1] at p1; cases p1
              rw [← p3]; congr 1; simp only [Nat.zero_add]; omega)
            generalize hρ2 : (fun b => if b = (h ++ g1).length then (⟨a.block, a.off, cap * P.cellsOf e⟩ : Loc) else ρ1 b : Ren) = ρ2 at r2 e2
            have hρn : ρ2 (h ++ g1).length = ⟨a.block, a.off, cap * P.cellsOf e⟩ := by rw [← hρ2]; exact if_pos rfl
            refine ⟨ρ2, g1 ++ [.ro ess.flatten], [.slice (some ⟨(h ++ g1).length, 0, none⟩) ess.length le.length], ?_, fun b hb => (e2 b (by simp; omega)).trans (e1 b hb), LRel.cons ?_ LRel.nil, .cons _ _ _ _ ?_ .nil⟩
            · rw [← List.append_assoc]; exact r2
            · rw [n1]
              by_cases hc0 : cap = 0
              · subst hc0
                obtain rfl : len = 0 := by omega
                exact .slice0 _ _ _ _ (by simp)
              · obtain ⟨arr, ty, fz, q1, q2⟩ := hblk 0 (by omega)
                have := VRel.slice (ρ := ρ2) (n := (h ++ (g1 ++ [Blk.ro ess.flatten])).length) (h ++ g1).length 0 len le.length cap (by simp) hlc (fun hz => by omega)
                  (fun _ => by rw [hρn]; simp [hsz])
                rw [hρn] at this
                obtain ⟨ab, ao, asp⟩ := a
                simp only at q2; subst q2
                simpa using this
            · rw [← List.append_assoc]
              exact .sl le _ ess (by simp) (by omega) t1.mono
        · cases hl
      · cases hl
    · rename_i fs hu
      split at hl
      · rename_i lf hlf
        split at hl
        · rename_i hsz
          cases hl
          obtain ⟨hlen, hall⟩ := trod_struct_inv hu ht hwt
          have := got_fields (fuel := fuel) (fun ty l hl ccs d ps h' w' => ih ty l hl fuel ccs d ps h' w') ccs fs.toList 0 _ hlf (by omega) hall ρ h R
          simpa using this
        · cases hl
      · cases hl
    · rename_i n e hu
      split at hl
      · rename_i le hle
        split at hl
        · rename_i hsz
          obtain ⟨hsz, htot⟩ := hsz
          cases hl
          obtain ⟨hlen, hall⟩ := trod_array_inv hu ht hwt
          have := got_items (fuel := fuel) hsz (fun ccs d ps h' w' => ih e le hle fuel ccs d ps h' w') ccs n 0 (by rw [hlen]; simpa using htot.symm) (fun i _ hi => hall i (by omega)) ρ h R
          simpa using this
        · cases hl
      · cases hl
    · cases hl

/-- An argument of the frame: of a type, as its cells say. -/
def TyArg (P : Program) (h : Heap) (ty : TypeId) (v : Value) : Prop := ∃ l acs, shapesOf P 8 ty = some l ∧ TyL h l acs ∧ asVal P ty acs v

def TyArgs (P : Program) (h : Heap) : List TypeId → List Value → Prop
  | [], vs => vs = []
  | t :: ts, vs => ∃ v rest, vs = v :: rest ∧ TyArg P h t v ∧ TyArgs P h ts rest

theorem TyArg.mono {h g : Heap} {ty : TypeId} {v : Value} (a : TyArg P h ty v) : TyArg P (h ++ g) ty v := by
  obtain ⟨l, acs, h1, h2, h3⟩ := a; exact ⟨l, acs, h1, h2.mono, h3⟩

theorem TyArgs.mono {h g : Heap} : ∀ {ts : List TypeId} {vs : List Value}, TyArgs P h ts vs → TyArgs P (h ++ g) ts vs
  | [], _, a => a
  | _ :: _, _, ⟨v, rest, e, a, b⟩ => ⟨v, rest, e, a.mono, b.mono⟩

theorem shapes_under {d : Nat} {ty : TypeId} {l : List CS} (h : shapesOf P d ty = some l) : ∃ dd, P.underlying ty = some dd ∧ (isAggD dd = false → l.length = 1) ∧
    (isAggD dd = false → dd = .bool ∨ (∃ k, dd = .int k) ∨ dd = .string ∨ ∃ e, dd = .slice e) := by
  cases d with
  | zero => simp [shapesOf] at h
  | succ d =>
    simp only [shapesOf] at h
    split at h <;> first | (cases h; done) | skip
    all_goals (rename_i hu)
    · cases h; exact ⟨_, hu, fun _ => rfl, fun _ => .inl rfl⟩
    · cases h; exact ⟨_, hu, fun _ => rfl, fun _ => .inr (.inl ⟨_, rfl⟩)⟩
    · cases h; exact ⟨_, hu, fun _ => rfl, fun _ => .inr (.inr (.inl rfl))⟩
    · split at h
      · split at h
        · cases h; exact ⟨_, hu, fun _ => rfl, fun _ => .inr (.inr (.inr ⟨_, rfl⟩))⟩
        · cases h
      · cases h
    · exact ⟨_, hu, fun ha => by simp [isAggD] at ha, fun ha => by simp [isAggD] at ha⟩
    · exact ⟨_, hu, fun ha => by simp [isAggD] at ha, fun ha => by simp [isAggD] at ha⟩

/-- The arguments of a law, in the frame. -/
theorem got_args (hbase : W.heap.size ≤ base) {r : Reach} {b0 : Nat} : ∀ (ts : List TypeId) (vs : List Value) (ds : List (DataW H)) (ps : List MemPlace),
    (∀ t ∈ ts, (shapesOf P 8 t).isSome = true) → (∀ (j : Nat) t v, ts[j]? = some t → vs[j]? = some v → Value.okWide P W r b0 t v) →
    DataW.TrodAll enc P W 0 (fun _ => true) true ts vs ds ps → (∀ n ∈ DataW.weightsEach P ts ds, n ≤ reachBytes) → ∀ ρ h, HR base ρ β 0 h W →
      ∃ ρ' g avs, HR base ρ' β 0 (h ++ g) W ∧ (∀ b, b < h.length → ρ' b = ρ b) ∧ LRel ρ' (h ++ g).length avs vs ∧ TyArgs P (h ++ g) ts avs := by
  intro ts
  induction ts with
  | nil =>
    intro vs ds ps _ _ ht _ ρ h R
    cases vs with
    | nil => exact ⟨ρ, [], [], by simpa using R, fun _ _ => rfl, LRel.nil, rfl⟩
    | cons v vs => cases ds <;> simp [DataW.TrodAll] at ht
  | cons t ts ih =>
    intro vs ds ps hsh hok ht hwt ρ h R
    cases vs with
    | nil => cases ds <;> simp [DataW.TrodAll] at ht
    | cons v vs =>
      cases ds with
      | nil => simp [DataW.TrodAll] at ht
      | cons d ds =>
        simp only [DataW.TrodAll] at ht
        simp only [DataW.weightsEach, List.mem_append] at hwt
        obtain ⟨p, q, ⟨fuel, hp⟩, hq, _⟩ := ht
        obtain ⟨l, hl⟩ := Option.isSome_iff_exists.1 (hsh t (by simp))
        obtain ⟨ρ1, g1, acs, r1, e1, l1, t1⟩ := got hbase 8 t l hl fuel _ d p hp (fun n hn => hwt n (.inl hn)) ρ h R
        obtain ⟨ρ2, g2, avs, r2, e2, l2, t2⟩ := ih vs ds q (fun t' ht' => hsh t' (by simp [ht'])) (fun j t' v' h1 h2 => hok (j + 1) t' v' (by simpa using h1) (by simpa using h2)) hq (fun n hn => hwt n (.inr hn)) ρ1 (h ++ g1) r1
        obtain ⟨dd, hu, hone, hkind⟩ := shapes_under hl
        have hv := hok 0 t v rfl rfl
        have hval : ∃ av, VRel ρ1 (h ++ g1).length av v ∧ asVal P t acs av := by
          cases ha : isAggD dd
          · have hcells : v.cells = #[v] := by
              unfold Value.okWide at hv
              rw [hu] at hv
              rcases hkind ha with rfl | ⟨k, rfl⟩ | rfl | ⟨e, rfl⟩ <;> simp only [] at hv <;> cases v <;> first | rfl | (simp [Cell.okWide, Cell.ok, hu] at hv; done)
            rw [hcells] at l1
            have hlen : acs.length = 1 := by rw [l1.1]; rfl
            obtain ⟨x, rfl⟩ := List.length_eq_one_iff.1 hlen
            exact ⟨x, l1.2 0 x v rfl rfl, dd, hu, .inr ⟨ha, rfl⟩⟩
          · have hagg : ∃ cs, v = .agg cs := by
              unfold Value.okWide at hv
              rw [hu] at hv
              cases dd <;> first | (simp [isAggD] at ha; done) | (obtain ⟨cs, rfl, _⟩ := hv; exact ⟨cs, rfl⟩)
            obtain ⟨cs, rfl⟩ := hagg
            have l1' : LRel ρ1 (h ++ g1).length acs cs.toList := l1
            exact ⟨.agg acs.toArray, by simpa using l1'.agg, dd, hu, .inl ⟨ha, rfl⟩⟩
        obtain ⟨av, hr, has⟩ := hval
        refine ⟨ρ2, g1 ++ g2, av :: avs, ?_, fun b hb => (e2 b (by simp; omega)).trans (e1 b hb), ?_, av, avs, rfl, ?_, ?_⟩
        · rw [← List.append_assoc]; exact r2
        · rw [← List.append_assoc]; exact LRel.cons (hr.mono (by simp) e2) l2
        · rw [← List.append_assoc]; exact TyArg.mono ⟨l, acs, hl, t1, has⟩
        · rw [← List.append_assoc]; exact t2

theorem HR.start (W : World) (hg : Gl.p W.heap.size W.heap) : HR W.heap.size (fun _ => ⟨0, 0, 0⟩) (fun _ => 0) 0 [] W :=
  ⟨Nat.le_refl _, fun b hb => by omega, Nat.le_refl _, fun b cs hb => by simp at hb, fun b cs hb => by simp at hb, fun b b' c1 c2 hb => by simp at hb, ⟨fun b kd es h => by simp at h, fun b b' kd kd' es es' h => by simp at h, fun b s p h => by simp at h, fun b b' s s' p p' h => by simp at h, hg⟩⟩

theorem below_trodAll (hl : laidOutB P = true) {W' : World} (hb : Below W.heap.size W W') : ∀ (ts : List TypeId) (vs : List Value) (ds : List (DataW H)) (ps : List MemPlace),
    (∀ t ∈ ts, P.readableRec t = true ∧ t < P.types.size) → (∀ x ∈ ps, x.block < W.heap.size) → DataW.TrodAll enc P W 0 (fun _ => true) true ts vs ds ps →
    DataW.TrodAll enc P W' 0 (fun b => decide (b < W.heap.size)) true ts vs ds ps := by
  intro ts
  induction ts with
  | nil => intro vs ds ps _ _ ht; cases vs <;> cases ds <;> first | exact ht | exact ht.elim
  | cons t ts ih =>
    intro vs ds ps hr hlt ht
    cases vs with
    | nil => cases ds <;> exact ht.elim
    | cons v vs =>
      cases ds with
      | nil => exact ht.elim
      | cons d ds =>
        simp only [DataW.TrodAll] at ht ⊢
        obtain ⟨p, q, h1, h2, rfl⟩ := ht
        exact ⟨p, q, RowKit.Below.trod hl (hr t (by simp)).1 (hr t (by simp)).2 h1 hb (fun x hx => hlt x (by simp [hx])), ih vs ds q (fun t' ht' => hr t' (by simp [ht'])) (fun x hx => hlt x (by simp [hx])) h2, rfl⟩

/-- What is to be shown of a law: at any arguments of its types the frame answers true. -/
def Law (P : Program) (cfg : Cfg) (f : FuncId) (ts : List TypeId) : Prop := ∀ h avs, TyArgs P h ts avs → ∃ h', call P cfg ⟨0, 0⟩ f avs h = some (.bool true, h')

/-- FROM THE FRAME TO THE ROW: a law that the frame answers with true meets its row's contract. -/
theorem law_contract (hm : P.follows .mixedOrders = true) (hlaid : laidOutB P = true) {cfg : Cfg} (hx : ExtOk P cfg) {f : FuncId} {fn : Func} {s : ChangeSpec} {tb : TypeId} (hvars : s.vars = [])
    (hres : fn.resultTypes = #[tb]) (htb : P.underlying tb = some .bool)
    (hts : ∀ t ∈ fn.params.toList, P.readableRec t = true ∧ t < P.types.size ∧ (shapesOf P 8 t).isSome = true)
    (hspec : ∀ ds : List (DataW H), ds.length = fn.params.size → (s.fn H (ds ++ [])).results = [.lit (.bool true)] ∧ (s.fn H (ds ++ [])).args = ds ∧ (s.fn H (ds ++ [])).vars = [])
    (hlaw : Law P cfg f fn.params.toList) {W : World} (hg : Gl.p W.heap.size W.heap) {r : Reach} {b0 : Nat} {args : Array Value} {ds gs : List (DataW H)} {before : List MemPlace}
    (hok : ∀ (j : Nat) t v, fn.params[j]? = some t → args[j]? = some v → Value.okWide P W r b0 t v)
    (hW : DataW.Whole enc P fn.params.toList s.vars false W args.toList ds gs before)
    (hz : (DataW.weightsEach P (fn.params.toList ++ s.plain.varTypes P) (ds ++ gs)).all (· ≤ reachBytes) = true) :
    Calls P f args W fun e W' => ∃ v, e = .returned v ∧ s.post enc P fn false true false false W args v W' := by
  have hW' := hW
  obtain ⟨p, q, hA, hV, rfl, _, _⟩ := hW'
  rw [hvars] at hV
  obtain ⟨rfl, rfl⟩ := ChangeShapes.trodVars_none hV
  obtain ⟨ρ, g, avs, R, _, hl, hty⟩ := got_args (base := W.heap.size) (β := fun _ => 0) (Nat.le_refl _) fn.params.toList args.toList ds p (fun t ht => (hts t ht).2.2)
    (fun j t v h1 h2 => hok j t v (by simpa using h1) (by simpa using h2)) hA (fun n hn => of_decide_eq_true (List.all_eq_true.1 hz n (wt_pre n hn))) _ [] (HR.start W hg)
  obtain ⟨h', hc⟩ := hlaw _ _ hty
  refine (((call_sound hm cfg hx) ⟨0, 0⟩ f avs _ _ h' hc).2 W.heap.size ρ (fun _ => 0) W args R hl).mono fun e W' hh => ?_
  obtain ⟨cv, ρ', rfl, R', hv, E⟩ := hh
  rw [hv.bool_inv]
  have hdl : ds.length = fn.params.size := by
    have key : ∀ (ts : List TypeId) (vs : List Value) (ds : List (DataW H)) (ps : List MemPlace), DataW.TrodAll enc P W 0 (fun _ => true) true ts vs ds ps → ds.length = ts.length := by
      intro ts
      induction ts with
      | nil => intro vs ds ps ht; cases vs <;> cases ds <;> first | rfl | exact ht.elim
      | cons t ts ih =>
        intro vs ds ps ht
        cases vs with
        | nil => cases ds <;> exact ht.elim
        | cons v vs => cases ds with
          | nil => exact ht.elim
          | cons d ds => obtain ⟨p, q, _, h2, _⟩ := ht; simp [ih vs ds q h2]
    simpa using key _ _ _ _ hA
  obtain ⟨s1, s2, s3⟩ := hspec ds hdl
  have hlt : ∀ x ∈ p, x.block < W.heap.size := fun x hx => hW.lt x (by simpa using hx)
  refine ⟨.bool true, rfl, ds, [], p ++ [], [], p, [], hW, ?_, ?_, ?_, E.below.frame _, fun h => by cases h⟩
  · rw [s1, hres]
    exact ChangeShapes.trodAll_mk1 ⟨1, by simp [DataW.trod, Value.cells, htb]⟩
  · rw [s2]
    exact below_trodAll hlaid E.below _ _ _ _ (fun t ht => ⟨(hts t ht).1, (hts t ht).2.1⟩) hlt hA
  · rw [s3, hvars]; rfl

end Go.Det
