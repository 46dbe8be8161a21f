/- Steps that change memory: a new block, a store, an append; the model's run beside the frame's. -/
import Derived.Test.YtbliaopehpcpbaaDoorDetB
set_option autoImplicit false
set_option linter.unusedVariables false
set_option linter.unusedSimpArgs false
set_option linter.unusedSectionVars false
namespace Go.Det
open Go.RowKit (Below)

variable [Gl] {P : Program} {base : Nat} {ρ : Ren} {β : Nat → Nat} {lim : Nat} {h : Heap} {w : World}

theorem own_bound (H : HR base ρ β lim h w) {b : Nat} {cs : List Value} (hb : h[b]? = some (.own cs)) : (ρ b).blk < w.heap.size := by
  obtain ⟨_, ccs, e, h1, _⟩ := H.own b cs hb
  exact (Array.getElem?_eq_some_iff.1 h1).1

theorem Below.alloc' {base : Nat} {w : World} (hb : base ≤ w.heap.size) (o : Obj) : Below base w (w.alloc o) := (Below.refl base w).alloc hb o

/-- A new block. -/
theorem HR.alloc (H : HR base ρ β lim h w) {cs : List Value} {ccs : Array Value} {e : TypeId} (hl : cs.length ≤ ccs.size) (hc : CellsAt ρ h.length cs ccs 0) :
    let ρ' : Ren := fun b => if b = h.length then ⟨w.heap.size, 0, ccs.size⟩ else ρ b
    HR base ρ' β lim (h ++ [.own cs]) (w.alloc (.cells ccs e)) ∧ ∀ md, Ext base md ρ h w ρ' (h ++ [.own cs]) (w.alloc (.cells ccs e)) := by
  intro ρ'
  have hr : ∀ b, b < h.length → ρ' b = ρ b := fun b hb => by show (if _ then _ else _) = _; rw [if_neg (by omega)]
  have hn : ρ' h.length = ⟨w.heap.size, 0, ccs.size⟩ := if_pos rfl
  have old : ∀ {b k}, (h ++ [Blk.own cs])[b]? = some k → (b < h.length ∧ h[b]? = some k) ∨ (b = h.length ∧ k = .own cs) := by
    intro b k hk
    by_cases hb : b < h.length
    · rw [List.getElem?_append_left hb] at hk; exact .inl ⟨hb, hk⟩
    · rw [List.getElem?_append_right (by omega)] at hk
      have : b - h.length = 0 := by
        rcases Nat.eq_zero_or_pos (b - h.length) with h0 | h0
        · exact h0
        · rw [List.getElem?_eq_none (by simp; omega)] at hk; cases hk
      rw [this] at hk; simp at hk
      exact .inr ⟨by omega, hk.symm⟩
  have keep : ∀ k, k < w.heap.size → (w.alloc (.cells ccs e)).heap[k]? = w.heap[k]? := fun k hk => Below.heap_alloc w _ k hk
  have bdm : ∀ b, b < h.length → bd β lim h b ≤ bd β lim (h ++ [Blk.own cs]) b := by
    intro b hb; unfold bd; split
    · exact Nat.le_refl _
    · simp
  have blt : ∀ b, bd β lim h b ≤ h.length := H.bd_le
  have cells : ∀ b cs' ccs' off, b < h.length → CellsAt ρ (bd β lim h b) cs' ccs' off → CellsAt ρ' (bd β lim (h ++ [Blk.own cs]) b) cs' ccs' off := by
    intro b cs' ccs' off hb hcells i v hv
    obtain ⟨c, h1, h2⟩ := hcells i v hv
    exact ⟨c, h1, h2.mono (bdm b hb) fun x hx => hr x (Nat.lt_of_lt_of_le hx (blt b))⟩
  refine ⟨⟨?_, H.bnd, ?_, ?_, ?_, ?_, H.mp.sub (fun g => Gl.keep g (by simp) (fun k hk => keep k (Nat.lt_of_lt_of_le hk H.base_le))) (fun b kk ho hb => by
      rcases old hb with ⟨hlt, hk⟩ | ⟨_, hk⟩
      · exact ⟨hk, hr b hlt⟩
      · subst hk; cases ho) (fun b kk ho hb o oo hw => by rw [keep _ (Array.getElem?_eq_some_iff.1 hw).1]; exact hw) (fun b kd es hb l hl => by
      rcases old hb with ⟨hlt, _⟩ | ⟨_, hk⟩
      · exact hl.mono (bdm b hlt) fun x hx => hr x (Nat.lt_of_lt_of_le hx (blt b))
      · cases hk)⟩, fun md => ⟨by simp, hr, fun b _ hb => by rw [List.getElem?_append_left hb], Below.alloc' H.base_le _, fun k hk _ => keep k hk, fun b hb => by
      obtain ⟨k, hk, hl⟩ := hb
      rcases old hk with ⟨hlt, hk'⟩ | ⟨rfl, _⟩
      · exact .inr ⟨b, ⟨k, hk', hl⟩, (congrArg Loc.blk (hr b hlt)).symm⟩
      · refine .inl ?_
        rw [hn]
        exact Nat.le_refl _⟩⟩
  · have := H.lim_le; simp; omega
  · have := H.base_le; simp; omega
  · intro b cs' hb hne
    rcases old hb with ⟨hlt, hk⟩ | ⟨_, hk⟩
    · rw [hr b hlt]
      obtain ⟨h1, ccs', e', fz, h2, h3⟩ := H.ro b cs' hk hne
      refine ⟨h1, ccs', e', fz, ?_, cells b cs' ccs' _ hlt h3⟩
      rw [keep _ (Array.getElem?_eq_some_iff.1 h2).1]; exact h2
    · cases hk
  · intro b cs' hb
    rcases old hb with ⟨hlt, hk⟩ | ⟨rfl, hk⟩
    · rw [hr b hlt]
      obtain ⟨h1, ccs', e', h2, h3, h4, h5⟩ := H.own b cs' hk
      refine ⟨h1, ccs', e', ?_, h3, h4, cells b cs' ccs' _ hlt h5⟩
      rw [keep _ (Array.getElem?_eq_some_iff.1 h2).1]; exact h2
    · cases hk
      rw [hn]
      refine ⟨H.base_le, ccs, e, heap_alloc_new w _, by simp, hl, fun i v hv => ?_⟩
      obtain ⟨c, h1, h2⟩ := hc i v hv
      have hb' : bd β lim (h ++ [Blk.own cs]) h.length = h.length + 1 := by
        have := H.lim_le; unfold bd; rw [if_neg (by omega)]; simp
      rw [hb']
      exact ⟨c, h1, h2.mono (by omega) hr⟩
  · intro b b' cs1 cs2 h1 h2 hne
    rcases old h1 with ⟨hlt, hk⟩ | ⟨rfl, hk⟩ <;> rcases old h2 with ⟨hlt', hk'⟩ | ⟨rfl, hk'⟩
    · rw [hr b hlt, hr b' hlt']; exact H.apart b b' cs1 cs2 hk hk' hne
    · rw [hr b hlt, hn]; exact Nat.ne_of_lt (own_bound H hk)
    · rw [hr b' hlt', hn]; exact Nat.ne_of_gt (own_bound H hk')
    · exact absurd rfl hne

/-- The block of a cell that is stored into. -/
theorem setCell_block (w : World) (b o : Nat) (c : Value) (k : Nat) (hne : k ≠ b) : (w.setCell ⟨b, o, none⟩ c).heap[k]? = w.heap[k]? := Below.heap_setCell w _ c k hne

theorem setCell_at (w : World) (b o : Nat) (c : Value) {ccs : Array Value} {e : TypeId} {fz : Nat × Nat} (hb : w.heap[b]? = some (.cells ccs e fz)) :
    (w.setCell ⟨b, o, none⟩ c).heap[b]? = some (.cells (ccs.setIfInBounds o c) e fz) := by
  simp [World.setCell, Array.getElem?_modify, hb]

theorem getElem?_set_heap {h : Heap} {b b' : Nat} {k k' : Blk} (hk : (h.set b k)[b']? = some k') : (b = b' ∧ k' = k) ∨ (b ≠ b' ∧ h[b']? = some k') := by
  rw [List.getElem?_set] at hk
  by_cases e : b = b'
  · simp only [e, if_true] at hk
    split at hk
    · cases hk; exact .inl ⟨e, rfl⟩
    · cases hk
  · simp only [e, if_false] at hk; exact .inr ⟨e, hk⟩

/-- One cell of an own block is stored into. -/
theorem HR.setCell (H : HR base ρ β lim h w) {b j : Nat} {cs cs' : List Value} {c : Value} (hb : h[b]? = some (.own cs)) (hj : j < (ρ b).avail) (hl : cs'.length ≤ (ρ b).avail)
    (hcs : ∀ (i : Nat) v, cs'[i]? = some v → (i = j ∧ VRel ρ (bd β lim h b) v c) ∨ (i ≠ j ∧ cs[i]? = some v)) :
    HR base ρ β lim (h.set b (.own cs')) (w.setCell ⟨(ρ b).blk, (ρ b).off + j, none⟩ c) ∧
    (∀ md : Md, md.ro ≤ b → Ext base md ρ h w ρ (h.set b (.own cs')) (w.setCell ⟨(ρ b).blk, (ρ b).off + j, none⟩ c)) ∧
    (∃ u, w.cell? ⟨(ρ b).blk, (ρ b).off + j, none⟩ = some u) ∧ w.frozen? ⟨(ρ b).blk, (ρ b).off + j, none⟩ = false := by
  obtain ⟨h1, ccs, e, h2, h3, h4, h5⟩ := H.own b cs hb
  have hbl : b < h.length := (List.getElem?_eq_some_iff.1 hb).1
  have bde : ∀ b', bd β lim (h.set b (.own cs')) b' = bd β lim h b' := fun b' => by simp [bd]
  refine ⟨⟨by simpa using H.lim_le, H.bnd, by simpa using H.base_le, ?_, ?_, ?_, H.mp.sub (fun g => Gl.keep g (by simp) (fun k hk => setCell_block w _ _ c k (by omega))) (fun b' kk ho hb' => by
      rcases getElem?_set_heap hb' with ⟨_, hk'⟩ | ⟨_, hk'⟩
      · subst hk'; cases ho
      · exact ⟨hk', rfl⟩) (fun b' kk ho hb' o oo hw => by
      rw [setCell_block w _ _ c _ (fun hx => by rw [hx, h2] at hw; cases hw; cases oo)]; exact hw) (fun b' kd es hb' l hl => by rw [bde]; exact hl)⟩, fun md hm => ⟨by simp, fun _ _ => rfl, fun b' hb' _ => ?_, (Below.refl _ _).setCell h1 c, fun k hk hl => setCell_block w _ _ c k (Ne.symm (hl b ⟨_, hb, rfl⟩)), fun b' hb' => by
      obtain ⟨k, hk, hl⟩ := hb'
      rcases getElem?_set_heap hk with ⟨rfl, _⟩ | ⟨_, hk'⟩
      · exact .inr ⟨b, ⟨_, hb, rfl⟩, rfl⟩
      · exact .inr ⟨b', ⟨_, hk', hl⟩, rfl⟩⟩, ?_, ?_⟩
  · intro b' cs1 hk hne
    rcases getElem?_set_heap hk with ⟨_, hk'⟩ | ⟨_, hk'⟩
    · cases hk'
    · obtain ⟨g1, ccs1, e1, fz, g2, g3⟩ := H.ro b' cs1 hk' hne
      refine ⟨g1, ccs1, e1, fz, ?_, ?_⟩
      · rw [setCell_block w _ _ c _ (by omega)]; exact g2
      · rw [bde]; exact g3
  · intro b' cs1 hk
    rcases getElem?_set_heap hk with ⟨rfl, hk'⟩ | ⟨hne, hk'⟩
    · cases hk'
      refine ⟨h1, ccs.setIfInBounds ((ρ b).off + j) c, e, setCell_at w _ _ c h2, by simpa using h3, hl, fun i v hv => ?_⟩
      rw [bde]
      rcases hcs i v hv with ⟨rfl, hr⟩ | ⟨hij, hv'⟩
      · refine ⟨c, ?_, hr⟩
        rw [Array.getElem?_setIfInBounds_self_of_lt (by omega)]
      · obtain ⟨u, g1, g2⟩ := h5 i v hv'
        refine ⟨u, ?_, g2⟩
        rw [Array.getElem?_setIfInBounds_ne (by omega)]; exact g1
    · obtain ⟨g1, ccs1, e1, g2, g3, g4, g5⟩ := H.own b' cs1 hk'
      refine ⟨g1, ccs1, e1, ?_, g3, g4, ?_⟩
      · rw [setCell_block w _ _ c _ (fun hx => H.apart b' b cs1 cs hk' hb (Ne.symm hne) hx)]; exact g2
      · rw [bde]; exact g5
  · intro b1 b2 cs1 cs2 hk1 hk2 hne
    rcases getElem?_set_heap hk1 with ⟨rfl, _⟩ | ⟨n1, hk1'⟩ <;> rcases getElem?_set_heap hk2 with ⟨rfl, _⟩ | ⟨n2, hk2'⟩
    · exact absurd rfl hne
    · exact H.apart b b2 cs cs2 hb hk2' hne
    · exact H.apart b1 b cs1 cs hk1' hb hne
    · exact H.apart b1 b2 cs1 cs2 hk1' hk2' hne
  · rw [List.getElem?_set_ne (by omega)]
  · have hlt : (ρ b).off + j < ccs.size := by omega
    exact ⟨ccs[(ρ b).off + j], cell_of_heap h2 (Array.getElem?_eq_getElem hlt)⟩
  · simp [World.frozen?, h2]

/-- A new map. -/
theorem HR.allocM (H : HR base ρ β lim h w) (kd : KT) :
    let ρ' : Ren := fun b => if b = h.length then ⟨w.heap.size, 0, 0⟩ else ρ b
    HR base ρ' β lim (h ++ [.mp kd []]) (w.alloc (.map #[] 0)) ∧ ∀ md, Ext base md ρ h w ρ' (h ++ [.mp kd []]) (w.alloc (.map #[] 0)) := by
  intro ρ'
  have hr : ∀ b, b < h.length → ρ' b = ρ b := fun b hb => by show (if _ then _ else _) = _; rw [if_neg (by omega)]
  have hn : ρ' h.length = ⟨w.heap.size, 0, 0⟩ := if_pos rfl
  have old : ∀ {b k}, (h ++ [Blk.mp kd []])[b]? = some k → (b < h.length ∧ h[b]? = some k) ∨ (b = h.length ∧ k = .mp kd []) := by
    intro b k hk
    by_cases hb : b < h.length
    · rw [List.getElem?_append_left hb] at hk; exact .inl ⟨hb, hk⟩
    · rw [List.getElem?_append_right (by omega)] at hk
      have : b - h.length = 0 := by
        rcases Nat.eq_zero_or_pos (b - h.length) with h0 | h0
        · exact h0
        · rw [List.getElem?_eq_none (by simp; omega)] at hk; cases hk
      rw [this] at hk; simp at hk
      exact .inr ⟨by omega, hk.symm⟩
  have keep : ∀ k, k < w.heap.size → (w.alloc (.map #[] 0)).heap[k]? = w.heap[k]? := fun k hk => Below.heap_alloc w _ k hk
  have bdm : ∀ b, b < h.length → bd β lim h b ≤ bd β lim (h ++ [Blk.mp kd []]) b := by
    intro b hb; unfold bd; split
    · exact Nat.le_refl _
    · simp
  have blt : ∀ b, bd β lim h b ≤ h.length := H.bd_le
  have cells : ∀ b cs' ccs' off, b < h.length → CellsAt ρ (bd β lim h b) cs' ccs' off → CellsAt ρ' (bd β lim (h ++ [Blk.mp kd []]) b) cs' ccs' off := by
    intro b cs' ccs' off hb hcells i v hv
    obtain ⟨c, h1, h2⟩ := hcells i v hv
    exact ⟨c, h1, h2.mono (bdm b hb) fun x hx => hr x (Nat.lt_of_lt_of_le hx (blt b))⟩
  refine ⟨⟨?_, H.bnd, ?_, ?_, ?_, ?_, ⟨fun b kd' es hb => ?_, fun b b' kd1 kd2 es1 es2 h1 h2 hne => ?_, fun b s p hb => ?_, fun b b' s s' p p' h1 h2 hne => ?_, Gl.keep H.mp.gl (by simp) (fun k hk => keep k (Nat.lt_of_lt_of_le hk H.base_le))⟩⟩, fun md => ⟨by simp, hr, fun b _ hb => by rw [List.getElem?_append_left hb], Below.alloc' H.base_le _, fun k hk _ => keep k hk, fun b hb => by
      obtain ⟨k, hk, hl⟩ := hb
      rcases old hk with ⟨hlt, hk'⟩ | ⟨rfl, _⟩
      · exact .inr ⟨b, ⟨k, hk', hl⟩, (congrArg Loc.blk (hr b hlt)).symm⟩
      · refine .inl ?_
        rw [hn]
        exact Nat.le_refl _⟩⟩
  · have := H.lim_le; simp; omega
  · have := H.base_le; simp; omega
  · intro b cs' hb hne
    rcases old hb with ⟨hlt, hk⟩ | ⟨_, hk⟩
    · rw [hr b hlt]
      obtain ⟨h1, ccs', e', fz, h2, h3⟩ := H.ro b cs' hk hne
      refine ⟨h1, ccs', e', fz, ?_, cells b cs' ccs' _ hlt h3⟩
      rw [keep _ (Array.getElem?_eq_some_iff.1 h2).1]; exact h2
    · cases hk
  · intro b cs' hb
    rcases old hb with ⟨hlt, hk⟩ | ⟨rfl, hk⟩
    · rw [hr b hlt]
      obtain ⟨h1, ccs', e', h2, h3, h4, h5⟩ := H.own b cs' hk
      refine ⟨h1, ccs', e', ?_, h3, h4, cells b cs' ccs' _ hlt h5⟩
      rw [keep _ (Array.getElem?_eq_some_iff.1 h2).1]; exact h2
    · cases hk
  · intro b b' cs1 cs2 h1 h2 hne
    rcases old h1 with ⟨hlt, hk⟩ | ⟨rfl, hk⟩ <;> rcases old h2 with ⟨hlt', hk'⟩ | ⟨rfl, hk'⟩
    · rw [hr b hlt, hr b' hlt']; exact H.apart b b' cs1 cs2 hk hk' hne
    · cases hk'
    · cases hk
    · cases hk
  · rcases old hb with ⟨hlt, hk⟩ | ⟨rfl, hk⟩
    · rw [hr b hlt]
      obtain ⟨g1, es', cl, g2, g3, g4, g5⟩ := H.mp.mp b kd' es hk
      exact ⟨g1, es', cl, by rw [keep _ (Array.getElem?_eq_some_iff.1 g2).1]; exact g2, g3, g4.mono (bdm b hlt) fun x hx => hr x (Nat.lt_of_lt_of_le hx (blt b)), g5⟩
    · cases hk
      rw [hn]
      exact ⟨H.base_le, #[], 0, heap_alloc_new w _, rfl, LRel.nil, fun p hp => by cases hp⟩
  · have lt : ∀ {b kd es}, h[b]? = some (.mp kd es) → (ρ b).blk < w.heap.size := fun hb => by
      obtain ⟨_, es', cl, g2, _⟩ := H.mp.mp _ _ _ hb
      exact (Array.getElem?_eq_some_iff.1 g2).1
    rcases old h1 with ⟨hlt, hk⟩ | ⟨rfl, hk⟩ <;> rcases old h2 with ⟨hlt', hk'⟩ | ⟨rfl, hk'⟩
    · rw [hr b hlt, hr b' hlt']; exact H.mp.apart b b' kd1 kd2 es1 es2 hk hk' hne
    · rw [hr b hlt, hn]; exact Nat.ne_of_lt (lt hk)
    · rw [hr b' hlt', hn]; exact Nat.ne_of_gt (lt hk')
    · exact absurd rfl hne
  · rcases old hb with ⟨hlt, hk⟩ | ⟨_, hk⟩
    · rw [hr b hlt]
      obtain ⟨g1, g0, g2⟩ := H.mp.si b s p hk
      exact ⟨g1, g0, by rw [keep _ (Array.getElem?_eq_some_iff.1 g2).1]; exact g2⟩
    · cases hk
  · rcases old h1 with ⟨hlt, hk⟩ | ⟨_, hk⟩
    · rcases old h2 with ⟨hlt', hk'⟩ | ⟨_, hk'⟩
      · rw [hr b hlt, hr b' hlt']; exact H.mp.siap b b' s s' p p' hk hk' hne
      · cases hk'
    · cases hk
/-- A new text that is gone through. -/
theorem HR.allocS (H : HR base ρ β lim h w) (tx : ByteArray) :
    let ρ' : Ren := fun b => if b = h.length then ⟨w.heap.size, 0, 0⟩ else ρ b
    HR base ρ' β lim (h ++ [.si tx 0]) (w.alloc (.stringIter tx 0)) ∧ ∀ md, Ext base md ρ h w ρ' (h ++ [.si tx 0]) (w.alloc (.stringIter tx 0)) := by
  intro ρ'
  have hr : ∀ b, b < h.length → ρ' b = ρ b := fun b hb => by show (if _ then _ else _) = _; rw [if_neg (by omega)]
  have hn : ρ' h.length = ⟨w.heap.size, 0, 0⟩ := if_pos rfl
  have old : ∀ {b k}, (h ++ [Blk.si tx 0])[b]? = some k → (b < h.length ∧ h[b]? = some k) ∨ (b = h.length ∧ k = .si tx 0) := by
    intro b k hk
    by_cases hb : b < h.length
    · rw [List.getElem?_append_left hb] at hk; exact .inl ⟨hb, hk⟩
    · rw [List.getElem?_append_right (by omega)] at hk
      have : b - h.length = 0 := by
        rcases Nat.eq_zero_or_pos (b - h.length) with h0 | h0
        · exact h0
        · rw [List.getElem?_eq_none (by simp; omega)] at hk; cases hk
      rw [this] at hk; simp at hk
      exact .inr ⟨by omega, hk.symm⟩
  have keep : ∀ k, k < w.heap.size → (w.alloc (.stringIter tx 0)).heap[k]? = w.heap[k]? := fun k hk => Below.heap_alloc w _ k hk
  have bdm : ∀ b, b < h.length → bd β lim h b ≤ bd β lim (h ++ [Blk.si tx 0]) b := by
    intro b hb; unfold bd; split
    · exact Nat.le_refl _
    · simp
  have blt : ∀ b, bd β lim h b ≤ h.length := H.bd_le
  have cells : ∀ b cs' ccs' off, b < h.length → CellsAt ρ (bd β lim h b) cs' ccs' off → CellsAt ρ' (bd β lim (h ++ [Blk.si tx 0]) b) cs' ccs' off := by
    intro b cs' ccs' off hb hcells i v hv
    obtain ⟨c, h1, h2⟩ := hcells i v hv
    exact ⟨c, h1, h2.mono (bdm b hb) fun x hx => hr x (Nat.lt_of_lt_of_le hx (blt b))⟩
  refine ⟨⟨?_, H.bnd, ?_, ?_, ?_, ?_, ⟨fun b kd' es hb => ?_, fun b b' kd1 kd2 es1 es2 h1 h2 hne => ?_, fun b s p hb => ?_, fun b b' s s' p p' h1 h2 hne => ?_, Gl.keep H.mp.gl (by simp) (fun k hk => keep k (Nat.lt_of_lt_of_le hk H.base_le))⟩⟩, fun md => ⟨by simp, hr, fun b _ hb => by rw [List.getElem?_append_left hb], Below.alloc' H.base_le _, fun k hk _ => keep k hk, fun b hb => by
      obtain ⟨k, hk, hl⟩ := hb
      rcases old hk with ⟨hlt, hk'⟩ | ⟨rfl, _⟩
      · exact .inr ⟨b, ⟨k, hk', hl⟩, (congrArg Loc.blk (hr b hlt)).symm⟩
      · refine .inl ?_
        rw [hn]
        exact Nat.le_refl _⟩⟩
  · have := H.lim_le; simp; omega
  · have := H.base_le; simp; omega
  · intro b cs' hb hne
    rcases old hb with ⟨hlt, hk⟩ | ⟨_, hk⟩
    · rw [hr b hlt]
      obtain ⟨h1, ccs', e', fz, h2, h3⟩ := H.ro b cs' hk hne
      refine ⟨h1, ccs', e', fz, ?_, cells b cs' ccs' _ hlt h3⟩
      rw [keep _ (Array.getElem?_eq_some_iff.1 h2).1]; exact h2
    · cases hk
  · intro b cs' hb
    rcases old hb with ⟨hlt, hk⟩ | ⟨rfl, hk⟩
    · rw [hr b hlt]
      obtain ⟨h1, ccs', e', h2, h3, h4, h5⟩ := H.own b cs' hk
      refine ⟨h1, ccs', e', ?_, h3, h4, cells b cs' ccs' _ hlt h5⟩
      rw [keep _ (Array.getElem?_eq_some_iff.1 h2).1]; exact h2
    · cases hk
  · intro b b' cs1 cs2 h1 h2 hne
    rcases old h1 with ⟨hlt, hk⟩ | ⟨rfl, hk⟩ <;> rcases old h2 with ⟨hlt', hk'⟩ | ⟨rfl, hk'⟩
    · rw [hr b hlt, hr b' hlt']; exact H.apart b b' cs1 cs2 hk hk' hne
    · cases hk'
    · cases hk
    · cases hk
  · rcases old hb with ⟨hlt, hk⟩ | ⟨_, hk⟩
    · rw [hr b hlt]
      obtain ⟨g1, es', cl, g2, g3, g4, g5⟩ := H.mp.mp b kd' es hk
      exact ⟨g1, es', cl, by rw [keep _ (Array.getElem?_eq_some_iff.1 g2).1]; exact g2, g3, g4.mono (bdm b hlt) fun x hx => hr x (Nat.lt_of_lt_of_le hx (blt b)), g5⟩
    · cases hk
  · rcases old h1 with ⟨hlt, hk⟩ | ⟨_, hk⟩
    · rcases old h2 with ⟨hlt', hk'⟩ | ⟨_, hk'⟩
      · rw [hr b hlt, hr b' hlt']; exact H.mp.apart b b' kd1 kd2 es1 es2 hk hk' hne
      · cases hk'
    · cases hk
  · rcases old hb with ⟨hlt, hk⟩ | ⟨rfl, hk⟩
    · rw [hr b hlt]
      obtain ⟨g1, g0, g2⟩ := H.mp.si b s p hk
      exact ⟨g1, g0, by rw [keep _ (Array.getElem?_eq_some_iff.1 g2).1]; exact g2⟩
    · cases hk
      rw [hn]
      exact ⟨H.base_le, rfl, heap_alloc_new w _⟩
  · have lt : ∀ {b s p}, h[b]? = some (.si s p) → (ρ b).blk < w.heap.size := fun hb => by
      obtain ⟨_, _, g2⟩ := H.mp.si _ _ _ hb
      exact (Array.getElem?_eq_some_iff.1 g2).1
    rcases old h1 with ⟨hlt, hk⟩ | ⟨rfl, hk⟩ <;> rcases old h2 with ⟨hlt', hk'⟩ | ⟨rfl, hk'⟩
    · rw [hr b hlt, hr b' hlt']; exact H.mp.siap b b' s s' p p' hk hk' hne
    · rw [hr b hlt, hn]; exact Nat.ne_of_lt (lt hk)
    · rw [hr b' hlt', hn]; exact Nat.ne_of_gt (lt hk')
    · exact absurd rfl hne
/-- A map is written. -/
theorem HR.setM (H : HR base ρ β lim h w) {b : Nat} {kd : KT} {es es2 : List (MK × Value)} {es' : Array MapEntry} {cl : Nat} (hb : h[b]? = some (.mp kd es))
    (he : es'.toList.map (fun e => e.key) = es2.map (fun p => keyV kd p.1)) (hv : LRel ρ (bd β lim h b) (es2.map (fun p => p.2)) (es'.toList.map (fun e => e.val))) (hs : ∀ p ∈ es2, gkey kd p.1 = true) :
    HR base ρ β lim (h.set b (.mp kd es2)) { w with heap := w.heap.setIfInBounds (ρ b).blk (.map es' cl) } ∧
    ∀ md : Md, md.ro ≤ b → Ext base md ρ h w ρ (h.set b (.mp kd es2)) { w with heap := w.heap.setIfInBounds (ρ b).blk (.map es' cl) } := by
  obtain ⟨h1, es0, cl0, h2, h3, h4⟩ := H.mp.mp b kd es hb
  have hbl : b < h.length := (List.getElem?_eq_some_iff.1 hb).1
  have bde : ∀ b', bd β lim (h.set b (.mp kd es2)) b' = bd β lim h b' := fun b' => by simp [bd]
  obtain ⟨hs1, hs2⟩ := MapKept.heap_set (o' := .map es' cl) h2
  refine ⟨⟨by simpa using H.lim_le, H.bnd, by simpa using H.base_le, ?_, ?_, ?_, ⟨fun b' kd' es1 hk => ?_, fun b1 b2 kd1 kd2 es1 es3 hk1 hk2 hne => ?_, fun b' s p hk => ?_, fun b1 b2 s1 s2 p1 p2 hk1 hk2 hne => ?_, Gl.keep H.mp.gl (by simp) (fun k hk => hs2 k (by omega))⟩⟩, fun md hm => ⟨by simp, fun _ _ => rfl, fun b' hb' _ => ?_, ⟨rfl, rfl, rfl, by simp, fun k hk => hs2 k (by omega)⟩, fun k hk hl => hs2 k (Ne.symm (hl b ⟨_, hb, rfl⟩)), fun b' hb' => by
      obtain ⟨k, hk, hl⟩ := hb'
      rcases getElem?_set_heap hk with ⟨rfl, _⟩ | ⟨_, hk'⟩
      · exact .inr ⟨b, ⟨_, hb, rfl⟩, rfl⟩
      · exact .inr ⟨b', ⟨_, hk', hl⟩, rfl⟩⟩⟩
  · intro b' cs1 hk hne
    rcases getElem?_set_heap hk with ⟨_, hk'⟩ | ⟨_, hk'⟩
    · cases hk'
    · obtain ⟨g1, ccs1, e1, fz, g2, g3⟩ := H.ro b' cs1 hk' hne
      exact ⟨g1, ccs1, e1, fz, (hs2 _ (by omega)).trans g2, by rw [bde]; exact g3⟩
  · intro b' cs1 hk
    rcases getElem?_set_heap hk with ⟨_, hk'⟩ | ⟨hne, hk'⟩
    · cases hk'
    · obtain ⟨g1, ccs1, e1, g2, g3, g4, g5⟩ := H.own b' cs1 hk'
      exact ⟨g1, ccs1, e1, (hs2 _ (fun hx => by rw [hx, h2] at g2; cases g2)).trans g2, g3, g4, by rw [bde]; exact g5⟩
  · intro b1 b2 cs1 cs2 hk1 hk2 hne
    rcases getElem?_set_heap hk1 with ⟨_, e⟩ | ⟨n1, hk1'⟩
    · cases e
    · rcases getElem?_set_heap hk2 with ⟨_, e⟩ | ⟨n2, hk2'⟩
      · cases e
      · exact H.apart b1 b2 cs1 cs2 hk1' hk2' hne
  · rcases getElem?_set_heap hk with ⟨rfl, hk'⟩ | ⟨hne, hk'⟩
    · cases hk'
      exact ⟨h1, es', cl, hs1, he, bde b ▸ hv, hs⟩
    · obtain ⟨g1, es3, cl3, g2, g3, g4, g5⟩ := H.mp.mp b' kd' es1 hk'
      exact ⟨g1, es3, cl3, (hs2 _ (fun hx => H.mp.apart b' b kd' kd es1 es hk' hb (Ne.symm hne) hx)).trans g2, g3, bde b' ▸ g4, g5⟩
  · rcases getElem?_set_heap hk1 with ⟨rfl, _⟩ | ⟨n1, hk1'⟩ <;> rcases getElem?_set_heap hk2 with ⟨rfl, _⟩ | ⟨n2, hk2'⟩
    · exact absurd rfl hne
    · exact H.mp.apart b b2 kd kd2 es es3 hb hk2' hne
    · exact H.mp.apart b1 b kd1 kd es1 es hk1' hb hne
    · exact H.mp.apart b1 b2 kd1 kd2 es1 es3 hk1' hk2' hne
  · rcases getElem?_set_heap hk with ⟨_, hk'⟩ | ⟨hne, hk'⟩
    · cases hk'
    · obtain ⟨g1, g0, g2⟩ := H.mp.si b' s p hk'
      exact ⟨g1, g0, (hs2 _ (fun hx => by rw [hx, h2] at g2; cases g2)).trans g2⟩
  · rcases getElem?_set_heap hk1 with ⟨_, e⟩ | ⟨n1, hk1'⟩
    · cases e
    · rcases getElem?_set_heap hk2 with ⟨_, e⟩ | ⟨n2, hk2'⟩
      · cases e
      · exact H.mp.siap b1 b2 s1 s2 p1 p2 hk1' hk2' hne
  · rw [List.getElem?_set_ne (by omega)]
/-- A text's next rune. -/
theorem HR.setS (H : HR base ρ β lim h w) {b : Nat} {tx tx2 : ByteArray} {pp pp2 : Nat} (hb : h[b]? = some (.si tx pp)) :
    HR base ρ β lim (h.set b (.si tx2 pp2)) { w with heap := w.heap.setIfInBounds (ρ b).blk (.stringIter tx2 pp2) } ∧
    ∀ md : Md, md.ro ≤ b → Ext base md ρ h w ρ (h.set b (.si tx2 pp2)) { w with heap := w.heap.setIfInBounds (ρ b).blk (.stringIter tx2 pp2) } := by
  obtain ⟨h1, h0, h2⟩ := H.mp.si b tx pp hb
  have hbl : b < h.length := (List.getElem?_eq_some_iff.1 hb).1
  have bde : ∀ b', bd β lim (h.set b (.si tx2 pp2)) b' = bd β lim h b' := fun b' => by simp [bd]
  obtain ⟨hs1, hs2⟩ := MapKept.heap_set (o' := .stringIter tx2 pp2) h2
  refine ⟨⟨by simpa using H.lim_le, H.bnd, by simpa using H.base_le, ?_, ?_, ?_, ⟨fun b' kd' es1 hk => ?_, fun b1 b2 kd1 kd2 es1 es3 hk1 hk2 hne => ?_, fun b' s p hk => ?_, fun b1 b2 s1 s2 p1 p2 hk1 hk2 hne => ?_, Gl.keep H.mp.gl (by simp) (fun k hk => hs2 k (by omega))⟩⟩, fun md hm => ⟨by simp, fun _ _ => rfl, fun b' hb' _ => ?_, ⟨rfl, rfl, rfl, by simp, fun k hk => hs2 k (by omega)⟩, fun k hk hl => hs2 k (Ne.symm (hl b ⟨_, hb, rfl⟩)), fun b' hb' => by
      obtain ⟨k, hk, hl⟩ := hb'
      rcases getElem?_set_heap hk with ⟨rfl, _⟩ | ⟨_, hk'⟩
      · exact .inr ⟨b, ⟨_, hb, rfl⟩, rfl⟩
      · exact .inr ⟨b', ⟨_, hk', hl⟩, rfl⟩⟩⟩
  · intro b' cs1 hk hne
    rcases getElem?_set_heap hk with ⟨_, hk'⟩ | ⟨_, hk'⟩
    · cases hk'
    · obtain ⟨g1, ccs1, e1, fz, g2, g3⟩ := H.ro b' cs1 hk' hne
      exact ⟨g1, ccs1, e1, fz, (hs2 _ (by omega)).trans g2, by rw [bde]; exact g3⟩
  · intro b' cs1 hk
    rcases getElem?_set_heap hk with ⟨_, hk'⟩ | ⟨hne, hk'⟩
    · cases hk'
    · obtain ⟨g1, ccs1, e1, g2, g3, g4, g5⟩ := H.own b' cs1 hk'
      exact ⟨g1, ccs1, e1, (hs2 _ (fun hx => by rw [hx, h2] at g2; cases g2)).trans g2, g3, g4, by rw [bde]; exact g5⟩
  · intro b1 b2 cs1 cs2 hk1 hk2 hne
    rcases getElem?_set_heap hk1 with ⟨_, e⟩ | ⟨n1, hk1'⟩
    · cases e
    · rcases getElem?_set_heap hk2 with ⟨_, e⟩ | ⟨n2, hk2'⟩
      · cases e
      · exact H.apart b1 b2 cs1 cs2 hk1' hk2' hne
  · rcases getElem?_set_heap hk with ⟨_, hk'⟩ | ⟨hne, hk'⟩
    · cases hk'
    · obtain ⟨g1, es3, cl3, g2, g3, g4, g5⟩ := H.mp.mp b' kd' es1 hk'
      exact ⟨g1, es3, cl3, (hs2 _ (fun hx => by rw [hx, h2] at g2; cases g2)).trans g2, g3, bde b' ▸ g4, g5⟩
  · rcases getElem?_set_heap hk1 with ⟨_, e⟩ | ⟨n1, hk1'⟩
    · cases e
    · rcases getElem?_set_heap hk2 with ⟨_, e⟩ | ⟨n2, hk2'⟩
      · cases e
      · exact H.mp.apart b1 b2 kd1 kd2 es1 es3 hk1' hk2' hne
  · rcases getElem?_set_heap hk with ⟨rfl, hk'⟩ | ⟨hne, hk'⟩
    · cases hk'
      exact ⟨h1, h0, hs1⟩
    · obtain ⟨g1, g0, g2⟩ := H.mp.si b' s p hk'
      exact ⟨g1, g0, (hs2 _ (fun hx => H.mp.siap b' b s tx p pp hk' hb (Ne.symm hne) hx)).trans g2⟩
  · rcases getElem?_set_heap hk1 with ⟨rfl, _⟩ | ⟨n1, hk1'⟩ <;> rcases getElem?_set_heap hk2 with ⟨rfl, _⟩ | ⟨n2, hk2'⟩
    · exact absurd rfl hne
    · exact H.mp.siap b b2 tx s2 pp p2 hb hk2' hne
    · exact H.mp.siap b1 b s1 tx p1 pp hk1' hb hne
    · exact H.mp.siap b1 b2 s1 s2 p1 p2 hk1' hk2' hne
  · rw [List.getElem?_set_ne (by omega)]

theorem lay_length (vs : List Value) : ∀ (cs : List Value) (i : Nat), (lay cs i vs).length = cs.length := by
  induction vs with
  | nil => intro cs i; rfl
  | cons v vs ih => intro cs i; simp [lay, ih]

/-- A row of stores: `storeCells` from a cell on. -/
theorem run_stores (b : Nat) (vs cvs : List Value) (hv : LRel ρ (bd β lim h b) vs cvs) (h1 : ∀ u ∈ cvs, u.oneCell' = true) :
    ∀ (k i : Nat) (cs : List Value) (h0 : Heap) (w : World), HR base ρ β lim h0 w → h0.length = h.length → h0[b]? = some (.own cs) → i + vs.length ≤ cs.length →
      (o : Nat) → o + k = i →
      ∃ w', (storeCells ⟨(ρ b).blk, (ρ b).off + o, none⟩ cvs k).run P w = .ok () w' ∧ HR base ρ β lim (h0.set b (.own (lay cs i vs))) w' ∧
        ∀ md : Md, md.ro ≤ b → Ext base md ρ h0 w ρ (h0.set b (.own (lay cs i vs))) w' := by
  induction vs generalizing cvs with
  | nil =>
    intro k i cs h0 w H hlen hb hi o ho
    rw [hv.nil_inv]
    refine ⟨w, by simp [storeCells], ?_, ?_⟩
    · have : h0.set b (.own (lay cs i [])) = h0 := by
        refine List.ext_getElem? fun x => ?_
        rw [List.getElem?_set]
        by_cases e : b = x
        · subst e; rw [if_pos rfl, if_pos (List.getElem?_eq_some_iff.1 hb).1]; exact hb.symm
        · rw [if_neg e]
      rw [this]; exact H
    · intro md hm
      have : h0.set b (.own (lay cs i [])) = h0 := by
        refine List.ext_getElem? fun x => ?_
        rw [List.getElem?_set]
        by_cases e : b = x
        · subst e; rw [if_pos rfl, if_pos (List.getElem?_eq_some_iff.1 hb).1]; exact hb.symm
        · rw [if_neg e]
      rw [this]; exact Ext.refl
  | cons v vs ih =>
    intro k i cs h0 w H hlen hb hi o ho
    obtain ⟨c, cl, rfl, hc, hl⟩ := hv.cons_inv
    simp at hi
    obtain ⟨_, ccs, e, _, _, h4, _⟩ := H.own b cs hb
    have bde : bd β lim h0 b = bd β lim h b := by simp [bd, hlen]
    obtain ⟨H1, E1, ⟨u, hu⟩, hfz⟩ := H.setCell (j := i) (cs' := cs.set i v) (c := c) hb (by omega) (by simpa using h4) (fun x y hy => by
      rw [List.getElem?_set] at hy
      by_cases e : i = x
      · subst e; simp only [if_true] at hy
        rw [if_pos (by omega)] at hy; cases hy
        exact .inl ⟨rfl, bde ▸ hc⟩
      · rw [if_neg e] at hy; exact .inr ⟨fun h => e h.symm, hy⟩)
    have hb1 : (h0.set b (.own (cs.set i v)))[b]? = some (.own (cs.set i v)) := by
      rw [List.getElem?_set_self (List.getElem?_eq_some_iff.1 hb).1]
    obtain ⟨w', hrun, H2, E2⟩ := ih cl hl (fun u hu => h1 u (by simp [hu])) (k + 1) (i + 1) (cs.set i v) _ _ H1 (by simpa using hlen) hb1 (by simp; omega) o (by omega)
    refine ⟨w', ?_, ?_, ?_⟩
    · have ha : (⟨(ρ b).blk, (ρ b).off + o, none⟩ : Addr).add k = ⟨(ρ b).blk, (ρ b).off + i, none⟩ := by rw [Addr.add_lit]; congr 1; omega
      simp only [storeCells, Sem.run_bind, ha, run_store P w _ c _ (h1 c (by simp)), hu, hfz]
      simpa using hrun
    · simpa [lay] using H2
    · intro md hm
      have := (E1 md hm).trans (E2 md hm)
      simpa [lay] using this

end Go.Det
