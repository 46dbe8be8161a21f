/- Each operation of the frame beside the model's run of it. -/
import Derived.Test.YtbliaopehpcpbaaDoorDetC
set_option autoImplicit false
set_option linter.unusedVariables false
set_option linter.unusedSimpArgs false
set_option linter.unusedSectionVars false
namespace Go.Det
open Go.RowKit (Below)

variable [Gl] {P : Program} {base : Nat} {ρ : Ren} {β : Nat → Nat} {md : Md} {h : Heap} {w : World} {α : Type} {r : α} {n : Nat}

theorem VRel.ptr_inv {b o : Nat} {c : Value} (h : VRel ρ n (.pointer (some ⟨b, o, none⟩)) c) : b < n ∧ c = .pointer (some ⟨(ρ b).blk, (ρ b).off + o, none⟩) := by
  cases h with
  | sc _ h => simp [scalar] at h
  | ptr b o h => exact ⟨h, rfl⟩

theorem VRel.slice_inv {b o l c : Nat} {x : Value} (h : VRel ρ n (.slice (some ⟨b, o, none⟩) l c) x) :
    (b < n ∧ ∃ c', x = .slice (some ⟨(ρ b).blk, (ρ b).off + o, none⟩) l c' ∧ l ≤ c' ∧ (c = 0 → c' = 0) ∧ (c ≠ 0 → o + c' * c ≤ (ρ b).avail)) ∨
    (l = 0 ∧ ∃ a, x = .slice (some a) 0 0) := by
  cases h with
  | sc _ h => simp [scalar] at h
  | slice b o l c c' h hl h0 hc => exact .inl ⟨h, c', rfl, hl, h0, hc⟩
  | slice0 b o c a h => exact .inr ⟨rfl, a, rfl⟩
theorem VRel.slice_lt {b o l c : Nat} {x : Value} (h : VRel ρ n (.slice (some ⟨b, o, none⟩) l c) x) : b < n := by
  cases h with
  | sc _ h => simp [scalar] at h
  | slice b o l c c' h hl h0 hc => exact h
  | slice0 b o c a h => exact h

theorem VRel.int_inv {k : IntKind} {i : Int} {c : Value} (h : VRel ρ n (.int k i) c) : c = .int k i := h.scalar_eq rfl
theorem VRel.bool_inv {b : Bool} {c : Value} (h : VRel ρ n (.bool b) c) : c = .bool b := h.scalar_eq rfl
theorem VRel.string_inv {b : ByteArray} {c : Value} (h : VRel ρ n (.string b) c) : c = .string b := h.scalar_eq rfl

/-- The frame's answer and the model's run stand together: a value, the world as it was. -/
def Val (P : Program) (ρ : Ren) (n : Nat) (w : World) (s : Sem Value) (k : Value → Option α) (r : α) : Prop :=
  ∃ v cv, k v = some r ∧ s.run P w = .ok cv w ∧ VRel ρ n v cv

/-- The same where the memory may change. -/
def Eff (P : Program) (base : Nat) (md : Md) (ρ : Ren) (β : Nat → Nat) (h : Heap) (w : World) (s : Sem Value) (k : Value → Heap → Option α) (r : α) : Prop :=
  ∃ v cv ρ' h' w', k v h' = some r ∧ s.run P w = .ok cv w' ∧ HR base ρ' β md.lim h' w' ∧ VRel ρ' h'.length v cv ∧ Ext base md ρ h w ρ' h' w'

theorem Val.eff {s : Sem Value} {k : Value → Heap → Option α} (H : HR base ρ β md.lim h w) (hv : Val P ρ h.length w s (fun v => k v h) r) : Eff P base md ρ β h w s k r :=
  let ⟨v, cv, h1, h2, h3⟩ := hv; ⟨v, cv, ρ, h, w, h1, h2, H, h3, Ext.refl⟩

theorem run_typeInfo' {t : TypeId} {i : TypeInfo} (h : P.info? t = some i) (w : World) : (typeInfo t).run P w = .ok i w := by simp [typeInfo, h]
theorem run_sizeOf' {t : TypeId} {i : TypeInfo} (h : P.info? t = some i) (w : World) : (sizeOf t).run P w = .ok i.size w := by simp [sizeOf, run_typeInfo' h]
theorem run_zeroValue {t : TypeId} {i : TypeInfo} {z : Value} (h : P.info? t = some i) (hz : i.zero = some z) (w : World) : (zeroValue t).run P w = .ok z w := by simp [zeroValue, run_typeInfo' h, hz]
theorem run_isAgg {t : TypeId} {d : TypeDesc} (h : P.underlying t = some d) (w : World) : (isAgg t).run P w = .ok (isAggD d) w := by
  simp only [isAgg, Sem.run_bind, run_underlying h, Result.andThen_ok]; cases d <;> rfl

theorem tyOf_some {ty : TypeId} {a : Bool} {n : Nat} (h : tyOf P ty = some (a, n)) : ∃ d i, P.underlying ty = some d ∧ P.info? ty = some i ∧ isAggD d = a ∧ i.size = n := by
  unfold tyOf at h
  split at h
  · rename_i d i h1 h2; cases h; exact ⟨d, i, h1, h2, rfl, rfl⟩
  · cases h

theorem aLoad_sound {ty : TypeId} {x cx : Value} {k : Value → Option α} (H : HR base ρ β md.lim h w) (hx : VRel ρ h.length x cx) (hk : aLoad P ty x h k = some r) :
    Val P ρ h.length w (Instr.loadAt ty cx) k r := by
  unfold aLoad at hk
  split at hk
  · rename_i b i
    obtain ⟨_, rfl⟩ := hx.ptr_inv
    split at hk
    · rename_i n hty
      obtain ⟨d, inf, h1, h2, h3, rfl⟩ := tyOf_some hty
      split at hk
      · rename_i l hl
        obtain ⟨l', g1, g2⟩ := H.rdN hl
        refine ⟨_, .agg l'.toArray, hk, ?_, g1.agg⟩
        have hlen : inf.size = l'.length := by rw [← g1.1, (rdN_get hl).1]
        have := run_loadCells_list (P := P) w ⟨(ρ b).blk, (ρ b).off + i, none⟩ l' (fun j v hv => by rw [Addr.add_lit]; exact g2 j v hv)
        simp [Instr.loadAt, Instr.sureAddr, loadVar, run_isAgg h1, h3, run_sizeOf' h2, hlen, this]
      · cases hk
    · rename_i n hty
      obtain ⟨d, inf, h1, h2, h3, rfl⟩ := tyOf_some hty
      split at hk
      · rename_i v hv
        obtain ⟨c, g1, g2⟩ := H.rd hv
        refine ⟨v, c, hk, ?_, g2⟩
        simp [Instr.loadAt, Instr.sureAddr, loadVar, run_isAgg h1, h3, g1]
      · cases hk
    · cases hk
  · cases hk

theorem wr_sound {b i : Nat} {vs cvs : List Value} {h' : Heap} (H : HR base ρ β md.lim h w) (hv : LRel ρ h.length vs cvs) (h1 : vs.all isCell = true) (hw : wrN md h b i vs = some h') :
    ∃ w', (storeCells ⟨(ρ b).blk, (ρ b).off + i, none⟩ cvs).run P w = .ok () w' ∧ HR base ρ β md.lim h' w' ∧ Ext base md ρ h w ρ h' w' := by
  unfold wrN at hw
  split at hw
  · rename_i cs hb
    split at hw
    · rename_i hi
      split at hw
      · rename_i hm
        cases hw
        have hv' : LRel ρ (bd β md.lim h b) vs cvs := by
          rcases hm.2 with hlim | hsc
          · have : bd β md.lim h b = h.length := by unfold bd; rw [if_neg (by omega)]
            rw [this]; exact hv
          · rw [hv.scalars hsc]; exact LRel.of_scalars vs hsc
        obtain ⟨w', g1, g2, g3⟩ := run_stores (P := P) (β := β) (lim := md.lim) (h := h) b vs cvs hv' (hv.isCells h1) 0 i cs h w H rfl hb hi i rfl
        exact ⟨w', g1, g2, g3 md hm.1⟩
      · cases hw
    · cases hw
  · cases hw

theorem aStore_sound {ty : TypeId} {x cx v cv : Value} {k : Heap → Option α} (H : HR base ρ β md.lim h w) (hx : VRel ρ h.length x cx) (hv : VRel ρ h.length v cv)
    (hk : aStore P md ty x v h k = some r) :
    ∃ h' w', k h' = some r ∧ (Instr.storeAt ty cx cv).run P w = .ok () w' ∧ HR base ρ β md.lim h' w' ∧ Ext base md ρ h w ρ h' w' := by
  unfold aStore at hk
  split at hk
  · rename_i b i
    obtain ⟨_, rfl⟩ := hx.ptr_inv
    split at hk
    · rename_i a n hty
      obtain ⟨d, inf, h1, h2, h3, rfl⟩ := tyOf_some hty
      split at hk
      · rename_i hlen
        split at hk
        · rename_i hc
          split at hk
          · rename_i h' hw
            obtain ⟨w', g1, g2, g3⟩ := wr_sound (P := P) H hv.cells hc hw
            refine ⟨h', w', hk, ?_, g2, g3⟩
            have hl : cv.cells.size = inf.size := by have := hv.cells.1; simp only [Array.length_toList] at this hlen; omega
            simp [Instr.storeAt, Instr.sureAddr, storeVar, run_sizeOf' h2, hl, g1]
          · cases hk
        · cases hk
      · cases hk
    · cases hk
  · cases hk

theorem zeroOf_some {ty : TypeId} {z : List Value} (h : zeroOf P ty = some z) : ∃ i zv, P.info? ty = some i ∧ i.zero = some zv ∧ zv.cells.toList = z := by
  unfold zeroOf at h
  split at h
  · rename_i i hi
    split at h
    · rename_i zv hz; cases h; exact ⟨i, zv, hi, hz, rfl⟩
    · cases h
  · cases h

theorem cellsAt_of_rel {cs : List Value} {ccs : Array Value} (hl : LRel ρ n cs ccs.toList) : CellsAt ρ n cs ccs 0 := fun i v hv => by
  obtain ⟨c, h1, h2⟩ := hl.get hv
  exact ⟨c, by simpa using h1, h2⟩

/-- A new block for related cells: what the model does, and where the frame has it. -/
theorem new_sound {cs : List Value} {ccs : Array Value} {e : TypeId} (H : HR base ρ β md.lim h w) (hl : LRel ρ h.length cs ccs.toList) :
    ∃ ρ', HR base ρ' β md.lim (h ++ [.own cs]) (w.alloc (.cells ccs e)) ∧ Ext base md ρ h w ρ' (h ++ [.own cs]) (w.alloc (.cells ccs e)) ∧
      VRel ρ' (h ++ [Blk.own cs]).length (.pointer (some ⟨h.length, 0, none⟩)) (.pointer (some ⟨w.heap.size, 0, none⟩)) ∧ ρ' h.length = ⟨w.heap.size, 0, ccs.size⟩ := by
  have hs : cs.length = ccs.size := by simpa using hl.1
  obtain ⟨H', E⟩ := H.alloc (cs := cs) (ccs := ccs) (e := e) (by omega) (cellsAt_of_rel hl)
  refine ⟨_, H', E md, ?_, if_pos rfl⟩
  have := VRel.ptr (ρ := fun b => if b = h.length then ⟨w.heap.size, 0, ccs.size⟩ else ρ b) (n := (h ++ [Blk.own cs]).length) h.length 0 (by simp)
  simpa using this

theorem box_sound {e : TypeId} {v cv : Value} {k : Value → Heap → Option α} (H : HR base ρ β md.lim h w) (hv : VRel ρ h.length v cv)
    (hk : k (.pointer (some ⟨h.length, 0, none⟩)) (h ++ [.own v.cells.toList]) = some r) : Eff P base md ρ β h w (Instr.box e cv) k r := by
  obtain ⟨ρ', H', E, hp, _⟩ := new_sound (e := e) H hv.cells
  exact ⟨_, _, ρ', _, _, hk, by simp [Instr.box, newVar, newRow], H', hp, E⟩

theorem alloc_sound {e : TypeId} {z : List Value} {k : Value → Heap → Option α} (H : HR base ρ β md.lim h w) (hz : zeroOf P e = some z) (hs : z.all scalar = true)
    (hk : k (.pointer (some ⟨h.length, 0, none⟩)) (h ++ [.own z]) = some r) : Eff P base md ρ β h w (Instr.alloc e true (.tuple #[])) k r := by
  obtain ⟨i, zv, h1, h2, rfl⟩ := zeroOf_some hz
  obtain ⟨ρ', H', E, hp, _⟩ := new_sound (e := e) (ccs := zv.cells) H (LRel.of_scalars _ hs)
  exact ⟨_, _, ρ', _, _, hk, by simp [Instr.alloc, run_zeroValue h1 h2, newVar, newRow], H', hp, E⟩

/-! ### Building -/

theorem fill_foldl (vs : List Value) : ∀ (cs : Array Value) (off j : Nat), ((vs.zipIdx j).foldl (fun cs (p : Value × Nat) => cs.setIfInBounds (off + p.2) p.1) cs) = (lay cs.toList (off + j) vs).toArray := by
  induction vs with
  | nil => intro cs off j; simp [lay]
  | cons v vs ih =>
    intro cs off j
    simp only [List.zipIdx_cons, List.foldl_cons]
    rw [ih]
    simp [lay, Nat.add_assoc]

theorem fill_sound {place : Nat → Option (Nat × Nat)} (ps cps : List (Nat × Value))
    (hp : ps.length = cps.length ∧ ∀ (j : Nat) p q, ps[j]? = some p → cps[j]? = some q → p.1 = q.1 ∧ VRel ρ n p.2 q.2) :
    ∀ (cs : List Value) (ccs : Array Value) (l : List Value), LRel ρ n cs ccs.toList → fillL place cs ps = some l → ∃ cl : Array Value, Instr.fill place ccs cps = some cl ∧ LRel ρ n l cl.toList := by
  induction ps generalizing cps with
  | nil =>
    intro cs ccs l hc hl
    have : cps = [] := List.length_eq_zero_iff.1 (by have := hp.1; simp at this; exact this.symm)
    subst this
    simp [fillL] at hl; subst hl
    exact ⟨ccs, by simp [Instr.fill], hc⟩
  | cons p ps ih =>
    intro cs ccs l hc hl
    cases cps with
    | nil => simp at hp
    | cons q cps =>
      obtain ⟨i, v⟩ := p
      obtain ⟨i', cv⟩ := q
      obtain ⟨rfl, hv⟩ : i = i' ∧ VRel ρ n v cv := hp.2 0 _ _ rfl rfl
      simp only [fillL] at hl
      split at hl
      · rename_i off size hpl
        split at hl
        · rename_i hsz
          split at hl
          · rename_i hfit
            have hcl : cv.cells.size = v.cells.size := by have := hv.cells.1; simpa using this.symm
            have hcs : ccs.size = cs.length := by have := hc.1; simpa using this.symm
            have hsz' : cv.cells.size = size := by simpa [hcl] using hsz
            have hfit' : ¬ off + cv.cells.size > ccs.size := by
              have : off + v.cells.size ≤ cs.length := by simpa using hfit
              omega
            have key := ih cps ⟨by have := hp.1; simpa using this, fun j p q h1 h2 => hp.2 (j + 1) p q (by simpa using h1) (by simpa using h2)⟩
              (lay cs off v.cells.toList) (lay ccs.toList off cv.cells.toList).toArray l (by simpa using hv.cells.lay off hc) hl
            obtain ⟨cl, g1, g2⟩ := key
            refine ⟨cl, ?_, g2⟩
            have hnot : ¬ (cv.cells.size ≠ size ∨ off + cv.cells.size > ccs.size) := by
              intro hx; rcases hx with hx | hx
              · exact hx hsz'
              · exact hfit' hx
            simp only [Instr.fill, hpl]
            rw [if_neg (by simpa using hnot)]
            rw [← g1]
            congr 1
            have hf := fill_foldl cv.cells.toList ccs off 0
            rw [← Array.foldl_toList, Array.toList_zipIdx]
            simpa using hf
          · cases hl
        · cases hl
      · cases hl

/-- Parts of a literal: the same places, related values. -/
def PRel (ρ : Ren) (n : Nat) (ps cps : List (Nat × Value)) : Prop :=
  ps.length = cps.length ∧ ∀ (j : Nat) p q, ps[j]? = some p → cps[j]? = some q → p.1 = q.1 ∧ VRel ρ n p.2 q.2

theorem mapM_places (fields : List Field) (f : Nat → Option (Nat × Nat)) (w : World)
    (hf : ∀ (i : Nat) fd, fields[i]? = some fd → ∃ j, P.info? fd.type = some j) :
    ((fields.mapM fun fd => do pure (fd.offset, ← sizeOf fd.type) : Sem (List (Nat × Nat)))).run P w = .ok (fields.map fun fd => (fd.offset, P.cellsOf fd.type)) w := by
  induction fields with
  | nil => simp
  | cons fd fields ih =>
    obtain ⟨j, hj⟩ := hf 0 fd rfl
    have ih := ih fun i fd h => hf (i + 1) fd (by simpa using h)
    simp only [List.mapM_cons, Sem.run_bind, run_sizeOf' hj, Result.andThen_ok, Sem.run_pure, ih, List.map_cons, Program.cellsOf, hj, Option.map_some, Option.getD_some]

end Go.Det
