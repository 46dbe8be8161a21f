/- The built-in append and copy beside the model's. -/
import Derived.Test.YtbliaopehpcpbaaDoorDetH
set_option autoImplicit false
set_option linter.unusedVariables false
set_option linter.unusedSimpArgs false
set_option linter.unusedSectionVars false
namespace Go.Det
open Go.RowKit (Below)

variable [Gl] {P : Program} {base : Nat} {ρ : Ren} {β : Nat → Nat} {md : Md} {lim : Nat} {h : Heap} {w : World} {α : Type} {r : α} {n : Nat}

section
variable {t u ty e e2 : TypeId} {i : TypeInfo}

theorem run_append_in (ht : P.underlying t = some (.slice e)) (hu : P.underlying u = some (.slice e2)) (hi : P.info? e = some i) (a : Addr) (sLen sCap : Nat) (xa : Option Addr) (m xc : Nat)
    (news : Array Value) (hf : (Builtin.firstCells i.size m (.slice xa m xc)).run P w = .ok news w) (hroom : sLen + m ≤ sCap) {w' : World}
    (hst : (storeCells (a.add (sLen * i.size)) news.toList).run P w = .ok () w') :
    (Builtin.append_ #[t, u] ty #[.slice (some a) sLen sCap, .slice xa m xc]).run P w = .ok (.slice (some a) (sLen + m) sCap) w' := by
  simp [Builtin.append_, run_underlying ht, run_underlying hu, run_sizeOf' hi, Builtin.lenOf, hroom, hf, hst]

theorem run_append_none (ht : P.underlying t = some (.slice e)) (hu : P.underlying u = some (.slice e2)) (hi : P.info? e = some i) (sCap : Nat) (xa : Option Addr) (xc : Nat)
    (hf : (Builtin.firstCells i.size 0 (.slice xa 0 xc)).run P w = .ok #[] w) :
    (Builtin.append_ #[t, u] ty #[.slice none 0 sCap, .slice xa 0 xc]).run P w = .ok (.slice none 0 sCap) w := by
  simp [Builtin.append_, run_underlying ht, run_underlying hu, run_sizeOf' hi, Builtin.lenOf, hf]

theorem run_append_new {z : Value} (ht : P.underlying t = some (.slice e)) (hu : P.underlying u = some (.slice e2)) (hi : P.info? e = some i) (hz : i.zero = some z) (b : Option Addr) (sLen sCap : Nat)
    (olds : Array Value) (hfo : (Builtin.firstCells i.size sLen (.slice b sLen sCap)).run P w.drew = .ok olds w.drew) (xa : Option Addr) (m xc : Nat)
    (news : Array Value) (hf : (Builtin.firstCells i.size m (.slice xa m xc)).run P w.drew = .ok news w.drew)
    (hg : sCap < sLen + m) (h63 : sLen + m ≤ 9223372036854775807) (hfit : Builtin.nextslicecap (sLen + m) sCap * i.bytes ≤ 281474976710656) :
    (Builtin.append_ #[t, u] ty #[.slice b sLen sCap, .slice xa m xc]).run P w =
      .ok (.slice (some ⟨w.heap.size, 0, none⟩) (sLen + m) (grownCap w (sLen + m) sCap e))
        (w.drew.alloc (.cells (olds ++ news ++ Builtin.zeroCells z.cells (grownCap w (sLen + m) sCap e - (sLen + m))) e)) := by
  have hn : ¬ (sLen + m ≤ sCap) := by omega
  have h63' : ¬ (9223372036854775807 < ((sLen : Int) + (m : Int))) := by omega
  have h48' : ¬ (281474976710656 < Builtin.nextslicecap (sLen + m) sCap * i.bytes) := by omega
  simp [Builtin.append_, run_underlying ht, run_underlying hu, run_sizeOf' hi, run_typeInfo' hi, run_zeroValue hi hz, Builtin.lenOf, hn, h63', h48', Question.forced, hf, hfo, newRow, grownCap]

end

theorem firstCells_nil (size l c : Nat) (xa : Option Addr) (w : World) : (Builtin.firstCells size 0 (.slice xa l c)).run P w = .ok #[] w := by
  cases xa <;> simp [Builtin.firstCells, loadCells, loadCellsFrom]

theorem firstCells_rel {size m b o c : Nat} {l : List Value} {a : Addr} (H : HR base ρ β lim h w) (ha : a = ⟨(ρ b).blk, (ρ b).off + o, none⟩) (hl : rdN h b o (m * size) = some l) (len : Nat) :
    ∃ l', LRel ρ h.length l l' ∧ ∀ w', w'.heap = w.heap → (Builtin.firstCells size m (.slice (some a) len c)).run P w' = .ok l'.toArray w' := by
  obtain ⟨l', g1, g2⟩ := H.rdN hl
  refine ⟨l', g1, fun w' hw => ?_⟩
  subst ha
  have hlen : m * size = l'.length := by rw [← g1.1, (rdN_get hl).1]
  refine run_firstCells_some w' size m _ len c l' hlen.symm fun j v hv => ?_
  rw [Addr.add_lit]
  have := g2 j v hv
  simp only [World.cell?, hw] at this ⊢
  exact this

theorem HR.adopt (H : HR base ρ β lim h w) {b o m : Nat} {cs : List Value} (hb : h[b]? = some (.own cs)) (ho : o + m ≤ cs.length) :
    let ρ' : Ren := fun x => if x = h.length then ⟨(ρ b).blk, (ρ b).off + o, (ρ b).avail - o⟩ else ρ x
    HR base ρ' β lim (h.set b .dead ++ [.own ((cs.drop o).take m)]) w ∧ ∀ md : Md, md.ro ≤ b → Ext base md ρ h w ρ' (h.set b .dead ++ [.own ((cs.drop o).take m)]) w := by
  intro ρ'
  obtain ⟨g1, ccs, e, g2, g3, g4, g5⟩ := H.own b cs hb
  have hbl : b < h.length := (List.getElem?_eq_some_iff.1 hb).1
  have hr : ∀ x, x < h.length → ρ' x = ρ x := fun x hx => by show (if _ then _ else _) = _; rw [if_neg (by omega)]
  have hn : ρ' h.length = ⟨(ρ b).blk, (ρ b).off + o, (ρ b).avail - o⟩ := if_pos rfl
  have old : ∀ {x k}, (h.set b .dead ++ [Blk.own ((cs.drop o).take m)])[x]? = some k → k ≠ .dead → (x < h.length ∧ x ≠ b ∧ h[x]? = some k) ∨ (x = h.length ∧ k = .own ((cs.drop o).take m)) := by
    intro x k hk hd
    by_cases hx : x < h.length
    · rw [List.getElem?_append_left (by simpa using hx)] at hk
      rcases getElem?_set_heap hk with ⟨_, e⟩ | ⟨ne, hk⟩
      · exact absurd e hd
      · exact .inl ⟨hx, Ne.symm ne, hk⟩
    · rw [List.getElem?_append_right (by simp; omega)] at hk
      have : x - (h.set b .dead).length = 0 := by
        rcases Nat.eq_zero_or_pos (x - (h.set b Blk.dead).length) with h0 | h0
        · exact h0
        · rw [List.getElem?_eq_none (by simp at h0 ⊢; omega)] at hk; cases hk
      rw [this] at hk; simp at hk
      simp at this
      exact .inr ⟨by omega, hk.symm⟩
  have hlen : (h.set b .dead ++ [Blk.own ((cs.drop o).take m)]).length = h.length + 1 := by simp
  have bdm : ∀ x, x < h.length → bd β lim h x ≤ bd β lim (h.set b .dead ++ [Blk.own ((cs.drop o).take m)]) x := by
    intro x hx; unfold bd; split
    · exact Nat.le_refl _
    · rw [hlen]; omega
  have cells : ∀ x cs' ccs' off, x < h.length → CellsAt ρ (bd β lim h x) cs' ccs' off → CellsAt ρ' (bd β lim (h.set b .dead ++ [Blk.own ((cs.drop o).take m)]) x) cs' ccs' off := by
    intro x cs' ccs' off hx hcells i v hv
    obtain ⟨c, h1, h2⟩ := hcells i v hv
    exact ⟨c, h1, h2.mono (bdm x hx) fun y hy => hr y (Nat.lt_of_lt_of_le hy (H.bd_le x))⟩
  refine ⟨⟨?_, H.bnd, H.base_le, ?_, ?_, ?_, H.mp.sub id (fun x kk ho hx => by
      rcases old hx (fun e => by rw [e] at ho; cases ho) with ⟨hlt, _, hk⟩ | ⟨_, hk⟩
      · exact ⟨hk, hr x hlt⟩
      · subst hk; cases ho) (fun _ _ _ _ _ _ hw => hw) (fun x kd es hx l hl => by
      rcases old hx (by simp) with ⟨hlt, _⟩ | ⟨_, hk⟩
      · exact hl.mono (bdm x hlt) fun y hy => hr y (Nat.lt_of_lt_of_le hy (H.bd_le x))
      · cases hk)⟩, fun md hm => ⟨by rw [hlen]; omega, hr, fun x hx hl => ?_, Below.refl _ _, fun _ _ _ => rfl, fun x hx => by
      obtain ⟨k, hk, hl⟩ := hx
      rcases old hk (fun e => by rw [e] at hl; cases hl) with ⟨hlt, _, hk'⟩ | ⟨rfl, _⟩
      · exact .inr ⟨x, ⟨k, hk', hl⟩, (congrArg Loc.blk (hr x hlt)).symm⟩
      · exact .inr ⟨b, ⟨_, hb, rfl⟩, by rw [hn]⟩⟩⟩
  · have := H.lim_le; rw [hlen]; omega
  · intro x cs' hx hne
    rcases old hx (by simp) with ⟨hlt, _, hk⟩ | ⟨_, hk⟩
    · rw [hr x hlt]
      obtain ⟨k1, ccs', e', fz, k2, k3⟩ := H.ro x cs' hk hne
      exact ⟨k1, ccs', e', fz, k2, cells x cs' ccs' _ hlt k3⟩
    · cases hk
  · intro x cs' hx
    rcases old hx (by simp) with ⟨hlt, _, hk⟩ | ⟨rfl, hk⟩
    · rw [hr x hlt]
      obtain ⟨k1, ccs', e', k2, k3, k4, k5⟩ := H.own x cs' hk
      exact ⟨k1, ccs', e', k2, k3, k4, cells x cs' ccs' _ hlt k5⟩
    · cases hk
      rw [hn]
      refine ⟨g1, ccs, e, g2, by simp; omega, by simp; omega, fun i v hv => ?_⟩
      have hb' : bd β lim (h.set b .dead ++ [Blk.own ((cs.drop o).take m)]) h.length = h.length + 1 := by
        have := H.lim_le; unfold bd; rw [if_neg (by omega), hlen]
      rw [hb']
      rw [List.getElem?_take] at hv
      split at hv
      · rw [List.getElem?_drop] at hv
        obtain ⟨c, k1, k2⟩ := g5 (o + i) v hv
        exact ⟨c, by rw [show (ρ b).off + o + i = (ρ b).off + (o + i) by omega]; exact k1, k2.mono (by have := H.bd_le b; omega) fun y hy => hr y (Nat.lt_of_lt_of_le hy (H.bd_le b))⟩
      · cases hv
  · intro x y cs1 cs2 hx hy hne
    rcases old hx (by simp) with ⟨hlt, nb, hk⟩ | ⟨rfl, hk⟩ <;> rcases old hy (by simp) with ⟨hlt', nb', hk'⟩ | ⟨rfl, hk'⟩
    · rw [hr x hlt, hr y hlt']; exact H.apart x y cs1 cs2 hk hk' hne
    · rw [hr x hlt, hn]; exact H.apart x b cs1 cs hk hb nb
    · rw [hr y hlt', hn]; exact H.apart b y cs cs2 hb hk' (Ne.symm nb')
    · exact absurd rfl hne
  · rw [List.getElem?_append_left (by simpa using hl), List.getElem?_set_ne (by omega)]

/-- A row of stores behind the last cell that the frame knows of a block. -/
theorem run_grow (b : Nat) (vs cvs : List Value) (hv : LRel ρ (bd β lim h b) vs cvs) (h1 : ∀ u ∈ cvs, u.oneCell' = true) :
    ∀ (k : Nat) (cs : List Value) (h0 : Heap) (w : World), HR base ρ β lim h0 w → h0.length = h.length → h0[b]? = some (.own cs) → cs.length + vs.length ≤ (ρ b).avail →
      (o : Nat) → o + k = cs.length →
      ∃ w', (storeCells ⟨(ρ b).blk, (ρ b).off + o, none⟩ cvs k).run P w = .ok () w' ∧ HR base ρ β lim (h0.set b (.own (cs ++ vs))) w' ∧
        ∀ md : Md, md.ro ≤ b → Ext base md ρ h0 w ρ (h0.set b (.own (cs ++ vs))) w' := by
  induction vs generalizing cvs with
  | nil =>
    intro k cs h0 w H hlen hb hi o ho
    rw [hv.nil_inv]
    have : h0.set b (.own (cs ++ [])) = h0 := by
      refine List.ext_getElem? fun x => ?_
      rw [List.getElem?_set]
      by_cases e : b = x
      · subst e; rw [if_pos rfl, if_pos (List.getElem?_eq_some_iff.1 hb).1, hb]; simp
      · rw [if_neg e]
    rw [this]
    exact ⟨w, by simp [storeCells], H, fun _ _ => Ext.refl⟩
  | cons v vs ih =>
    intro k cs h0 w H hlen hb hi o ho
    obtain ⟨c, cl, rfl, hc, hl⟩ := hv.cons_inv
    simp at hi
    have bde : bd β lim h0 b = bd β lim h b := by simp [bd, hlen]
    obtain ⟨H1, E1, ⟨u, hu⟩, hfz⟩ := H.setCell (j := cs.length) (cs' := cs ++ [v]) (c := c) hb (by omega) (by simp; omega) (fun x y hy => by
      by_cases hx : x < cs.length
      · rw [List.getElem?_append_left hx] at hy; exact .inr ⟨by omega, hy⟩
      · rw [List.getElem?_append_right (by omega)] at hy
        have : x - cs.length = 0 := by
          rcases Nat.eq_zero_or_pos (x - cs.length) with h0 | h0
          · exact h0
          · rw [List.getElem?_eq_none (by simp; omega)] at hy; cases hy
        rw [this] at hy; simp at hy; subst hy
        exact .inl ⟨by omega, bde ▸ hc⟩)
    have hb1 : (h0.set b (.own (cs ++ [v])))[b]? = some (.own (cs ++ [v])) := by
      rw [List.getElem?_set_self (List.getElem?_eq_some_iff.1 hb).1]
    obtain ⟨w', hrun, H2, E2⟩ := ih cl hl (fun u hu => h1 u (by simp [hu])) (k + 1) (cs ++ [v]) _ _ H1 (by simpa using hlen) hb1 (by simp; omega) o (by simp; omega)
    refine ⟨w', ?_, ?_, ?_⟩
    · have ha : (⟨(ρ b).blk, (ρ b).off + o, none⟩ : Addr).add k = ⟨(ρ b).blk, (ρ b).off + cs.length, none⟩ := by rw [Addr.add_lit]; congr 1; omega
      simp only [storeCells, Sem.run_bind, ha, run_store P w _ c _ (h1 c (by simp)), hu, hfz]
      simpa using hrun
    · simpa using H2
    · intro md hm
      have := (E1 md hm).trans (E2 md hm)
      simpa using this

theorem append_sound {t u : TypeId} {s cs x cx : Value} {k : Value → Heap → Option α} (H : HR base ρ β md.lim h w) (hs : VRel ρ h.length s cs) (hx : VRel ρ h.length x cx)
    (hk : aAppend P md t u s x h k = some r) (ty : TypeId) : Eff P base md ρ β h w (Builtin.append_ #[t, u] ty #[cs, cx]) k r := by
  unfold aAppend at hk
  split at hk
  case h_2 => cases hk
  rename_i e e2 ht hu
  split at hk
  case h_2 => cases hk
  rename_i j z bs len cap hj hz
  obtain ⟨i, zv, h1, h2, rfl⟩ := zeroOf_some hz
  obtain rfl : i = j := by rw [h1] at hj; exact Option.some.inj hj
  split at hk
  case isFalse => cases hk
  rename_i hsz
  obtain ⟨z1, z2, z3⟩ := hsz
  split at hk
  case h_2 => cases hk
  rename_i n l hsrc
  -- what is appended
  have hsrc' : ∃ xa xc l', cx = .slice xa n xc ∧ LRel ρ h.length l l' ∧ l.length = n * i.size ∧ ∀ w', w'.heap = w.heap → (Builtin.firstCells i.size n (.slice xa n xc)).run P w' = .ok l'.toArray w' := by
    unfold srcCells at hsrc
    split at hsrc
    · rename_i b o m c
      split at hsrc
      · rename_i l0 hl0
        cases hsrc
        rcases hx.slice_inv with ⟨hb, c', rfl, _⟩ | ⟨rfl, a', rfl⟩
        · obtain ⟨l', g1, g2⟩ := firstCells_rel (P := P) (size := i.size) (c := c') H rfl hl0 n
          exact ⟨_, _, l', rfl, g1, (rdN_get hl0).1, g2⟩
        · have hl0' : l = [] := by have := (rdN_get hl0).1; simpa using this
          subst hl0'
          exact ⟨_, _, [], rfl, LRel.nil, by simp, fun w' _ => firstCells_nil _ _ _ _ w'⟩
      · cases hsrc
    · rename_i m c
      split at hsrc
      · rename_i hm; subst hm; cases hsrc
        rw [hx.scalar_eq rfl]
        exact ⟨_, _, [], rfl, LRel.nil, by simp, fun w' _ => firstCells_nil _ _ _ _ w'⟩
      · cases hsrc
    · cases hsrc
  obtain ⟨xa, xc, l', rfl, hl, hll, hfirst⟩ := hsrc'
  have hll' : l'.length = n * i.size := by rw [← hl.1]; exact hll
  split at hk
  · -- nothing is appended
    rename_i hn; subst hn
    have hl0 : l' = [] := List.length_eq_zero_iff.1 (by simpa using hll')
    subst hl0
    split at hk
    · split at hk
      · rename_i hlen; subst hlen
        refine ⟨_, _, ρ, _, w, hk, ?_, H, hs, Ext.refl⟩
        rw [hs.scalar_eq rfl]
        exact run_append_none ht hu h1 cap xa xc (by simpa using hfirst w rfl)
      · cases hk
    · refine ⟨_, _, ρ, _, w, hk, ?_, H, hs, Ext.refl⟩
      rcases hs.slice_inv with ⟨_, c', rfl, hle, _⟩ | ⟨rfl, a', rfl⟩
      · exact run_append_in ht hu h1 _ _ _ xa 0 xc #[] (by simpa using hfirst w rfl) (by omega) (by simp [storeCells])
      · exact run_append_in ht hu h1 _ _ _ xa 0 xc #[] (by simpa using hfirst w rfl) (by omega) (by simp [storeCells])
    · cases hk
  rename_i hn
  split at hk
  case isFalse => cases hk
  rename_i hbytes
  obtain ⟨hbytes, hone⟩ := hbytes
  have hle : len + n ≤ 140737488355328 := Nat.le_trans (Nat.le_mul_of_pos_right _ z3) hbytes
  have hzc : zv.cells.size = i.size := by simpa using z2
  have hd : HR base ρ β md.lim h w.drew := H.drew
  -- a new row: what was there, what is appended, room
  have grow : ∀ (olds : List Value) (colds : List Value) (cap' : Nat) (b' : Option Addr), LRel ρ h.length olds colds → olds.length = len * i.size → cap' < len + n →
      (∀ w', w'.heap = w.heap → (Builtin.firstCells i.size len (.slice b' len cap')).run P w' = .ok colds.toArray w') →
      ∃ cv ρ' w', (Builtin.append_ #[t, u] ty #[.slice b' len cap', .slice xa n xc]).run P w = .ok cv w' ∧ HR base ρ' β md.lim (h ++ [.own (olds ++ l)]) w' ∧
        VRel ρ' (h ++ [Blk.own (olds ++ l)]).length (.slice (some ⟨h.length, 0, none⟩) (len + n) i.size) cv ∧ Ext base md ρ h w ρ' (h ++ [.own (olds ++ l)]) w' := by
    intro olds colds cap' b' hol hlen hcap hfo
    have hge := grownCap_ge w (len + n) cap' e
    have hrun := run_append_new (w := w) (ty := ty) (P := P) ht hu h1 h2 b' len cap' colds.toArray (hfo w.drew rfl) xa n xc l'.toArray (hfirst w.drew rfl) hcap (by omega) (growslice_fits hcap hbytes)
    have hcl : colds.length = len * i.size := by rw [← hol.1]; exact hlen
    have hsize : (colds.toArray ++ l'.toArray ++ Builtin.zeroCells zv.cells (grownCap w (len + n) cap' e - (len + n))).size = grownCap w (len + n) cap' e * i.size := by
      simp only [Array.size_append, List.size_toArray, size_zeroCells, hzc, hcl, hll', ← Nat.add_mul]
      congr 1; omega
    obtain ⟨H', E⟩ := hd.alloc (cs := olds ++ l) (ccs := colds.toArray ++ l'.toArray ++ Builtin.zeroCells zv.cells (grownCap w (len + n) cap' e - (len + n))) (e := e)
      (by rw [hsize, List.length_append, hlen, hll, ← Nat.add_mul]; exact Nat.mul_le_mul_right _ hge)
      (fun x v hv => by
        obtain ⟨c, q1, q2⟩ := (hol.append hl).get hv
        refine ⟨c, ?_, q2⟩
        have hx : x < (colds ++ l').length := (List.getElem?_eq_some_iff.1 q1).1
        have : (colds.toArray ++ l'.toArray ++ Builtin.zeroCells zv.cells (grownCap w (len + n) cap' e - (len + n))).toList[x]? = some c := by
          simp only [Array.toList_append]
          rw [List.getElem?_append_left hx]; exact q1
        rw [Nat.zero_add, ← Array.getElem?_toList]; exact this)
    refine ⟨_, _, _, hrun, H', newSlice_rel (by simp) (by omega) hge ?_, ?_⟩
    · show (if _ then _ else _) = _
      rw [if_pos rfl, hsize]; rfl
    · have := E md
      exact ⟨this.len, this.rho, this.ro, (Below.refl base w).drew.trans this.below, this.frm, this.img⟩
  split at hk
  · -- nil
    split at hk
    · rename_i hz0
      obtain ⟨rfl, rfl⟩ := hz0
      rw [hs.scalar_eq rfl]
      obtain ⟨cv, ρ', w', q1, q2, q3, q4⟩ := grow [] [] 0 none LRel.nil (by simp) (by omega) (fun w' _ => firstCells_nil _ _ _ _ w')
      simp only [List.nil_append, Nat.zero_add] at q2 q3 q4
      exact ⟨_, cv, ρ', _, w', hk, q1, q2, q3, q4⟩
    · cases hk
  · rename_i b o
    split at hk
    · rename_i hz0
      obtain ⟨rfl, rfl⟩ := hz0
      have hcs : ∃ a, cs = .slice (some a) 0 0 := by
        rcases hs.slice_inv with ⟨_, c', rfl, _, h0, _⟩ | ⟨_, a', rfl⟩
        · rw [h0 rfl]; exact ⟨_, rfl⟩
        · exact ⟨_, rfl⟩
      obtain ⟨a, rfl⟩ := hcs
      obtain ⟨cv, ρ', w', q1, q2, q3, q4⟩ := grow [] [] 0 (some a) LRel.nil (by simp) (by omega) (fun w' _ => firstCells_nil _ _ _ _ w')
      simp only [List.nil_append, Nat.zero_add] at q2 q3 q4
      exact ⟨_, cv, ρ', _, w', hk, q1, q2, q3, q4⟩
    · split at hk
      · rename_i hcap; subst hcap
        split at hk
        · rename_i cs0 hb
          split at hk
          · rename_i hfit
            obtain ⟨hfit, hro⟩ := hfit
            have hbl : b < h.length := (List.getElem?_eq_some_iff.1 hb).1
            have hrd : rdN h b o (len * i.size) = some ((cs0.drop o).take (len * i.size)) := by
              simp [rdN, hb, Blk.cells, hfit]
            -- behind a new row the elder block is known no more
            have bury : ∀ {ρ' : Ren} {w' : World} {news : List Value}, HR base ρ' β md.lim (h ++ [.own news]) w' → Ext base md ρ h w ρ' (h ++ [.own news]) w' →
                HR base ρ' β md.lim (h.set b .dead ++ [.own news]) w' ∧ Ext base md ρ h w ρ' (h.set b .dead ++ [.own news]) w' := by
              intro ρ' w' news H' E'
              have hset : h.set b .dead ++ [Blk.own news] = (h ++ [Blk.own news]).set b .dead := by rw [List.set_append_left _ _ hbl]
              have hlen : (h.set b .dead ++ [Blk.own news]).length = (h ++ [Blk.own news]).length := by simp
              have bde : ∀ x, bd β md.lim (h.set b .dead ++ [Blk.own news]) x = bd β md.lim (h ++ [Blk.own news]) x := fun x => by unfold bd; rw [hlen]
              refine ⟨⟨by rw [hlen]; exact H'.lim_le, H'.bnd, H'.base_le, ?_, ?_, ?_, H'.mp.sub id (fun x kk ho hx => by
                  rw [hset] at hx
                  rcases getElem?_set_heap hx with ⟨_, e'⟩ | ⟨_, hx'⟩
                  · subst e'; cases ho
                  · exact ⟨hx', rfl⟩) (fun _ _ _ _ _ _ hw => hw) (fun x kd es hx l hl => by rw [bde]; exact hl)⟩, ⟨by simp, E'.rho, fun x hx hl => ?_, E'.below, E'.frm, fun x hx => by
                  obtain ⟨k, hk, hl⟩ := hx
                  rw [hset] at hk
                  rcases getElem?_set_heap hk with ⟨_, e'⟩ | ⟨_, hk'⟩
                  · rw [e'] at hl; cases hl
                  · exact E'.img x ⟨k, hk', hl⟩⟩⟩
              · intro x cs' hx hne
                rw [hset] at hx
                rcases getElem?_set_heap hx with ⟨_, e'⟩ | ⟨_, hx'⟩
                · cases e'
                · rw [bde]; exact H'.ro x cs' hx' hne
              · intro x cs' hx
                rw [hset] at hx
                rcases getElem?_set_heap hx with ⟨_, e'⟩ | ⟨_, hx'⟩
                · cases e'
                · rw [bde]; exact H'.own x cs' hx'
              · intro x y c1 c2 hx hy hne
                rw [hset] at hx hy
                rcases getElem?_set_heap hx with ⟨_, e'⟩ | ⟨_, hx'⟩
                · cases e'
                · rcases getElem?_set_heap hy with ⟨_, e'⟩ | ⟨_, hy'⟩
                  · cases e'
                  · exact H'.apart x y c1 c2 hx' hy' hne
              · rw [List.getElem?_append_left (by simpa using hl), List.getElem?_set_ne (by omega)]
            rcases hs.slice_inv with ⟨_, c', rfl, hlc, _, hav⟩ | ⟨rfl, a', rfl⟩
            · have hav' := hav (by omega)
              by_cases hroom : len + n ≤ c'
              · -- in place
                obtain ⟨H1, E1⟩ := H.adopt (o := o) (m := len * i.size) hb hfit
                generalize hρ1 : (fun x => if x = h.length then (⟨(ρ b).blk, (ρ b).off + o, (ρ b).avail - o⟩ : Loc) else ρ x : Ren) = ρ1 at H1 E1
                have hρn : ρ1 h.length = ⟨(ρ b).blk, (ρ b).off + o, (ρ b).avail - o⟩ := by rw [← hρ1]; exact if_pos rfl
                have hρo : ∀ x, x < h.length → ρ1 x = ρ x := fun x hx => by rw [← hρ1]; exact if_neg (by omega)
                have hlen1 : (h.set b .dead ++ [Blk.own ((cs0.drop o).take (len * i.size))]).length = h.length + 1 := by simp
                have hbd1 : bd β md.lim (h.set b .dead ++ [Blk.own ((cs0.drop o).take (len * i.size))]) h.length = h.length + 1 := by
                  have := H.lim_le; unfold bd; rw [if_neg (by omega), hlen1]
                have hget : (h.set b .dead ++ [Blk.own ((cs0.drop o).take (len * i.size))])[h.length]? = some (.own ((cs0.drop o).take (len * i.size))) := by
                  rw [List.getElem?_append_right (by simp)]; simp
                have htl : ((cs0.drop o).take (len * i.size)).length = len * i.size := by simp; omega
                have hcells : ∀ v ∈ l', v.oneCell' = true := hl.isCells hone
                have hmul : (len + n) * i.size ≤ c' * i.size := Nat.mul_le_mul_right _ hroom
                have hmul2 : (len + n) * i.size = len * i.size + n * i.size := Nat.add_mul _ _ _
                obtain ⟨w', q1, q2, q3⟩ := run_grow (P := P) (β := β) (lim := md.lim) (h := h.set b .dead ++ [Blk.own ((cs0.drop o).take (len * i.size))]) h.length l l'
                  (by rw [hbd1]; exact hl.mono (by omega) hρo) hcells 0 _ _ w H1 rfl hget (by rw [htl, hll, hρn]; simp; omega) (len * i.size) (by rw [htl]; omega)
                have hfin : (h.set b .dead ++ [Blk.own ((cs0.drop o).take (len * i.size))]).set h.length (.own ((cs0.drop o).take (len * i.size) ++ l)) =
                    h.set b .dead ++ [Blk.own ((cs0.drop o).take (len * i.size) ++ l)] := by
                  rw [List.set_append_right _ _ (by simp)]; simp
                rw [hfin] at q2 q3
                refine ⟨_, .slice (some ⟨(ρ b).blk, (ρ b).off + o, none⟩) (len + n) c', ρ1, _, w', hk, ?_, q2, ?_, (E1 md hro).trans (q3 md (by have := hbl; omega))⟩
                · refine run_append_in ht hu h1 _ _ _ xa n xc l'.toArray (hfirst w rfl) hroom ?_
                  rw [Addr.add_lit]
                  rw [hρn] at q1
                  simpa [Nat.add_assoc] using q1
                · have := VRel.slice (ρ := ρ1) (n := (h.set b .dead ++ [Blk.own ((cs0.drop o).take (len * i.size) ++ l)]).length) h.length 0 (len + n) i.size c' (by simp) hroom (fun hx => by omega)
                    (fun _ => by rw [hρn]; simp; omega)
                  rw [hρn] at this
                  simpa using this
              · obtain ⟨olds, g1, g2⟩ := firstCells_rel (P := P) (size := i.size) (c := c') H rfl hrd len
                obtain ⟨cv, ρ', w', q1, q2, q3, q4⟩ := grow _ olds c' _ g1 (by simp; omega) (by omega) g2
                obtain ⟨q2', q4'⟩ := bury q2 q4
                exact ⟨_, cv, ρ', _, w', hk, q1, q2', by simpa using q3, q4'⟩
            · simp only [Nat.zero_mul] at hrd
              obtain ⟨cv, ρ', w', q1, q2, q3, q4⟩ := grow [] [] 0 (some a') LRel.nil (by simp) (by omega) (fun w' _ => firstCells_nil _ _ _ _ w')
              simp only [List.nil_append] at q2 q3 q4
              obtain ⟨q2', q4'⟩ := bury q2 q4
              refine ⟨_, cv, ρ', _, w', hk, q1, ?_, ?_, ?_⟩
              · simpa using q2'
              · simpa using q3
              · simpa using q4'
          · cases hk
        · cases hk
      · cases hk
  · cases hk

end Go.Det
