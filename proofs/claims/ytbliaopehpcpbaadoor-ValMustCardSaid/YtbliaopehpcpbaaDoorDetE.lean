/- Each operation of the frame beside the model's run of it: literals, places, slices. -/
import Derived.Test.YtbliaopehpcpbaaDoorDetD
set_option autoImplicit false
set_option linter.unusedVariables false
set_option linter.unusedSimpArgs false
set_option linter.unusedSectionVars false
namespace Go.Det
open Go.RowKit (Below)

variable [Gl] {P : Program} {base : Nat} {ρ : Ren} {β : Nat → Nat} {md : Md} {h : Heap} {w : World} {α : Type} {r : α} {n : Nat}

theorem build_sound {ty : TypeId} {ps : List (Nat × Value)} {cps : Array (Nat × Value)} {k : Value → Option α} (hp : PRel ρ n ps cps.toList) (hk : aBuild P ty ps k = some r) :
    Val P ρ n w (Instr.build ty cps) k r := by
  unfold aBuild at hk
  split at hk
  · rename_i z hz
    obtain ⟨i, zv, h1, h2, rfl⟩ := zeroOf_some hz
    split at hk
    · rename_i hs
      split at hk
      · rename_i fs hu
        cases hall : fs.toList.all (fun f => (P.info? f.type).isSome)
        · simp [hall] at hk
        · simp only [hall, cond_true] at hk
          split at hk
          · rename_i l hl
            have hm := mapM_places (P := P) fs.toList (fun _ => none) w (fun i fd hfd => by
              have := List.all_eq_true.1 hall fd (List.mem_of_getElem? hfd)
              exact Option.isSome_iff_exists.1 this)
            have hplace : placeIn P fs = ((fs.toList.map fun fd => (fd.offset, P.cellsOf fd.type)).toArray[·]?) := by
              funext i
              unfold placeIn
              cases hi : fs[i]? with
              | none =>
                have : fs.toList[i]? = none := by simpa using hi
                simp [this]
              | some f =>
                have hf : fs.toList[i]? = some f := by simpa using hi
                have := List.all_eq_true.1 hall f (List.mem_of_getElem? hf)
                obtain ⟨j, hj⟩ := Option.isSome_iff_exists.1 this
                have hi' : fs[i]? = some f := hi
                simp [hj, hi', Program.cellsOf]
            rw [hplace] at hl
            obtain ⟨cl, g1, g2⟩ := fill_sound ps cps.toList hp _ zv.cells l (LRel.of_scalars _ hs) hl
            refine ⟨_, _, hk, ?_, g2.agg⟩
            simp only [Instr.build, Sem.run_bind, run_zeroValue h1 h2, Result.andThen_ok, run_underlying hu, Array.mapM_eq_mapM_toList, Sem.run_map, hm]
            rw [g1]
            simp
          · cases hk
      · rename_i m e hu
        split at hk
        · rename_i j hj
          split at hk
          · rename_i l hl
            obtain ⟨cl, g1, g2⟩ := fill_sound ps cps.toList hp _ zv.cells l (LRel.of_scalars _ hs) hl
            refine ⟨_, _, hk, ?_, g2.agg⟩
            simp only [Instr.build, Sem.run_bind, run_zeroValue h1 h2, Result.andThen_ok, run_underlying hu, run_sizeOf' hj]
            rw [g1]
            simp
          · cases hk
        · cases hk
      · cases hk
    · cases hk
  · cases hk

theorem repL_length (z : List Value) : ∀ n, (repL n z).length = n * z.length
  | 0 => by simp [repL]
  | n + 1 => by simp [repL, repL_length z n, Nat.add_mul, Nat.add_comm]

theorem repL_get (z : List Value) : ∀ (n i : Nat), i < n * z.length → (repL n z)[i]? = z[i % z.length]?
  | 0, i, h => by simp at h
  | n + 1, i, h => by
    simp only [repL]
    by_cases hi : i < z.length
    · rw [List.getElem?_append_left hi, Nat.mod_eq_of_lt hi]
    · rw [List.getElem?_append_right (by omega), repL_get z n _ (by rw [Nat.add_mul] at h; omega)]
      congr 1
      rw [Nat.mod_eq_sub_mod (a := i) (by omega)]

theorem rangeCells (z : Array Value) (n : Nat) (hz : 0 < z.size) : ((Array.range (n * z.size)).map (z[· % z.size]!)).toList = repL n z.toList := by
  refine List.ext_getElem? fun i => ?_
  by_cases hi : i < n * z.size
  · rw [repL_get _ _ _ (by simpa using hi)]
    have hm : i % z.size < z.size := Nat.mod_lt _ hz
    simp [hi, hm]
  · rw [List.getElem?_eq_none (by simp; omega), List.getElem?_eq_none (by rw [repL_length]; simp; omega)]

theorem repL_scalars {z : List Value} (hs : z.all scalar = true) : ∀ n, (repL n z).all scalar = true
  | 0 => rfl
  | n + 1 => by simp only [repL, List.all_append, hs, repL_scalars hs n, Bool.and_self]

theorem newSlice_rel {ρ' : Ren} {m c sz : Nat} {a : Nat} {b : Nat} (hb : b < n) (hsz : sz ≠ 0) (hl : m ≤ c) (hρ : ρ' b = ⟨a, 0, c * sz⟩) :
    VRel ρ' n (.slice (some ⟨b, 0, none⟩) m sz) (.slice (some ⟨a, 0, none⟩) m c) := by
  have := VRel.slice (ρ := ρ') (n := n) b 0 m sz c hb hl (fun h => absurd h hsz) (fun _ => by rw [hρ]; simp)
  simpa [hρ] using this

theorem buildSlice_sound {ty : TypeId} {len : Nat} {ps : List (Nat × Value)} {cps : Array (Nat × Value)} {k : Value → Heap → Option α} (H : HR base ρ β md.lim h w)
    (hp : PRel ρ h.length ps cps.toList) (hk : aBuildSlice P ty len ps h k = some r) : Eff P base md ρ β h w (Instr.buildSlice ty len cps) k r := by
  unfold aBuildSlice at hk
  split at hk
  · rename_i e hu
    split at hk
    · rename_i j z hj hz
      obtain ⟨i, zv, h1, h2, rfl⟩ := zeroOf_some hz
      obtain rfl : i = j := by rw [h1] at hj; exact Option.some.inj hj
      split at hk
      · rename_i hc
        obtain ⟨c1, c2, c3⟩ := hc
        split at hk
        · rename_i hs
          split at hk
          · rename_i l hl
            have hzsz : zv.cells.size = i.size := by simpa using c1.symm
            have hrow : (((Array.range (len * i.size)).map (zv.cells[· % zv.cells.size]!))).toList = repL len zv.cells.toList := by
              rw [← hzsz]; exact rangeCells _ _ (by omega)
            obtain ⟨cl, g1, g2⟩ := fill_sound (ρ := ρ) (n := h.length) ps cps.toList hp _ ((Array.range (len * i.size)).map (zv.cells[· % zv.cells.size]!)) l
              (by rw [hrow]; exact LRel.of_scalars _ (repL_scalars hs len)) hl
            obtain ⟨ρ', H', E, _, hρ⟩ := new_sound (md := md) (e := e) H g2
            have hll : l.length = len * i.size := by
              have fl : ∀ (ps : List (Nat × Value)) (c l : List Value), fillL (fun x => some (x * i.size, i.size)) c ps = some l → l.length = c.length := by
                intro ps
                induction ps with
                | nil => intro c l hf; simp [fillL] at hf; rw [hf]
                | cons p ps ih =>
                  intro c l hf
                  obtain ⟨x, v⟩ := p
                  simp only [fillL] at hf
                  split at hf
                  · split at hf
                    · rw [ih _ _ hf, lay_length]
                    · cases hf
                  · cases hf
              rw [fl _ _ _ hl, repL_length]; simp [hzsz]
            have hcl : cl.size = len * i.size := by rw [← hll]; simpa using g2.1.symm
            refine ⟨_, _, ρ', _, _, hk, ?_, H', newSlice_rel (by simp) (by omega) (Nat.le_refl len) (by rw [hρ, hcl]), E⟩
            by_cases hlen : len * i.size = 0
            · have hl0 : len = 0 := by rcases Nat.mul_eq_zero.1 hlen with h0 | h0 <;> omega
              subst hl0
              simp only [Instr.buildSlice, Sem.run_bind, run_underlying hu, Result.andThen_ok, run_sizeOf' h1]
              have g1' : Instr.fill (fun x => some (x * i.size, i.size)) #[] cps.toList = some cl := by simpa [Array.range_zero'] using g1
              simp [g1', newRow, Array.range_zero']
            · simp only [Instr.buildSlice, Sem.run_bind, run_underlying hu, Result.andThen_ok, run_sizeOf' h1]
              rw [if_neg (by omega), if_neg hlen]
              simp only [Sem.run_pure, Result.andThen_ok, Sem.run_bind, run_zeroValue h1 h2]
              rw [g1]
              simp [newRow]
          · cases hk
        · cases hk
      · cases hk
    · cases hk
  · cases hk

theorem makeSlice_sound {ty : TypeId} {len cap cl cc : Value} {k : Value → Heap → Option α} (H : HR base ρ β md.lim h w) (hl : VRel ρ h.length len cl) (hc : VRel ρ h.length cap cc)
    (hk : aMakeSlice P ty len cap h k = some r) : Eff P base md ρ β h w (Instr.makeSlice ty cl cc) k r := by
  unfold aMakeSlice at hk
  split at hk
  · rename_i e l c hu
    rw [hl.int_inv, hc.int_inv]
    split at hk
    · rename_i j z hj hz
      obtain ⟨i, zv, h1, h2, rfl⟩ := zeroOf_some hz
      obtain rfl : i = j := by rw [h1] at hj; exact Option.some.inj hj
      split at hk
      · rename_i hcc
        obtain ⟨c1, c2, hs⟩ := hcc
        split at hk
        · rename_i hb
          obtain ⟨b1, b2, b3, b4⟩ := hb
          have hzsz : zv.cells.size = i.size := by simpa using c1.symm
          have hmk := run_make (P := P) w ty e i zv hu h1 h2 .i64 .i64 l c b1 b2 (by omega) b3
          have hrow : (madeCells zv.cells (c.toNat * i.size)).toList = repL c.toNat zv.cells.toList := by
            rw [← hzsz]; exact rangeCells _ _ (by omega)
          obtain ⟨H', E⟩ := H.alloc (cs := repL l.toNat zv.cells.toList) (ccs := madeCells zv.cells (c.toNat * i.size)) (e := e)
            (by rw [size_madeCells, repL_length]; simp only [Array.length_toList, hzsz]; exact Nat.mul_le_mul_right _ (by omega))
            (fun x v hv => by
              have hx : x < l.toNat * zv.cells.toList.length := by rw [← repL_length]; exact (List.getElem?_eq_some_iff.1 hv).1
              have hx' : x < c.toNat * zv.cells.toList.length := Nat.lt_of_lt_of_le hx (Nat.mul_le_mul_right _ (by omega))
              rw [repL_get _ _ _ hx] at hv
              refine ⟨v, ?_, .sc v (List.all_eq_true.1 hs v (List.mem_of_getElem? hv))⟩
              have : (madeCells zv.cells (c.toNat * i.size)).toList[x]? = some v := by rw [hrow, repL_get _ _ _ hx']; exact hv
              simpa using this)
          refine ⟨_, _, _, _, _, hk, hmk, H', ?_, E md⟩
          exact newSlice_rel (by simp) (by omega) (by omega) (by simp [size_madeCells])
        · cases hk
      · cases hk
    · cases hk
  · cases hk

theorem run_fieldAt {ty : TypeId} {fs : Array Field} {f : Nat} {fd : Field} {j : TypeInfo} (hu : P.underlying ty = some (.struct fs)) (hf : fs[f]? = some fd) (hj : P.info? fd.type = some j)
    (hs : j.size ≠ 0) (b o : Nat) (w : World) : (Instr.fieldAt ty (.pointer (some ⟨b, o, none⟩)) f).run P w = .ok (.pointer (some ⟨b, o + fd.offset, none⟩)) w := by
  simp [Instr.fieldAt, run_underlying hu, hf, Instr.sureAddr, fieldPlace, run_sizeOf' hj, hs, Addr.add_lit]

theorem fieldAddr_sound {ty : TypeId} {x cx : Value} {f : Nat} {k : Value → Option α} (hx : VRel ρ n x cx) (hk : aFieldAddr P ty x f k = some r) :
    Val P ρ n w (Instr.fieldAt ty cx f) k r := by
  unfold aFieldAddr at hk
  split at hk
  · rename_i fs hu
    split at hk
    · rename_i fd hf
      split at hk
      · rename_i j b o hj
        obtain ⟨hb, rfl⟩ := hx.ptr_inv
        cases hz : Nat.beq j.size 0
        · simp only [hz, cond_false] at hk
          refine ⟨_, _, hk, run_fieldAt hu hf hj (by intro h0; rw [h0] at hz; simp at hz) _ _ w, ?_⟩
          rw [Nat.add_assoc]; exact .ptr b _ hb
        · simp [hz] at hk
      · cases hk
    · cases hk
  · cases hk

theorem part_sound {f : TypeId} {cs : List Value} {ccs : Array Value} {off : Nat} {k : Value → Option α} (hc : LRel ρ n cs ccs.toList) (hk : partOf P f cs off k = some r) :
    Val P ρ n w (part f ccs off) k r := by
  unfold partOf at hk
  split at hk
  · rename_i m hty
    obtain ⟨d, i, h1, h2, h3, rfl⟩ := tyOf_some hty
    refine ⟨_, .agg (ccs.extract off (off + i.size)), hk, ?_, ?_⟩
    · simp [part, run_isAgg h1, h3, run_sizeOf' h2]
    · have : ccs.extract off (off + i.size) = ((ccs.toList.drop off).take i.size).toArray := by
        apply Array.ext'
        simp [Array.toList_extract, List.extract_eq_take_drop]
      rw [this]
      exact ((hc.drop off).take i.size).agg
  · rename_i m hty
    obtain ⟨d, i, h1, h2, h3, rfl⟩ := tyOf_some hty
    split at hk
    · rename_i v hv
      obtain ⟨c, g1, g2⟩ := hc.get hv
      refine ⟨v, c, hk, ?_, g2⟩
      have : ccs[off]? = some c := by simpa using g1
      simp [part, run_isAgg h1, h3, this]
    · cases hk
  · cases hk

theorem field_sound {ty : TypeId} {x cx : Value} {f : Nat} {k : Value → Option α} (hx : VRel ρ n x cx) (hk : aField P ty x f k = some r) : Val P ρ n w (Instr.field ty cx f) k r := by
  unfold aField at hk
  split at hk
  · rename_i fs hu
    split at hk
    · rename_i fd cs hf
      obtain ⟨ys, rfl, hl⟩ := hx.agg_inv
      obtain ⟨v, cv, g1, g2, g3⟩ := part_sound (w := w) hl hk
      exact ⟨v, cv, g1, by simp [Instr.field, run_underlying hu, hf, asAgg, g2], g3⟩
    · cases hk
  · cases hk

theorem indexAddr_sound {ty : TypeId} {x cx i ci : Value} {k : Value → Option α} (hx : VRel ρ n x cx) (hi : VRel ρ n i ci) (hk : aIndexAddr P ty x i k = some r) :
    Val P ρ n w (Instr.indexAt ty cx ci) k r := by
  unfold aIndexAddr at hk
  split at hk
  · rename_i ik m
    rw [hi.int_inv]
    split at hk
    · rename_i e b o len c hu
      split at hk
      · rename_i j hj
        split at hk
        · rename_i hm
          obtain ⟨hb, c', rfl, _⟩ | ⟨rfl, _⟩ := hx.slice_inv
          case inr => omega
          refine ⟨_, _, hk, ?_, .ptr b _ hb⟩
          simp [Instr.indexAt, run_underlying hu, asIntOf, hm, run_sizeOf' hj, Addr.add_lit, Nat.add_assoc]
        · cases hk
      · cases hk
    · rename_i len e b o hu
      obtain ⟨hb, rfl⟩ := hx.ptr_inv
      split at hk
      · rename_i j hj
        split at hk
        · rename_i hm
          refine ⟨_, _, hk, ?_, .ptr b _ hb⟩
          simp [Instr.indexAt, run_underlying hu, asIntOf, Instr.sureAddr, hm, run_sizeOf' hj, Addr.add_lit, Nat.add_assoc]
        · cases hk
      · cases hk
    · cases hk
  · cases hk

theorem index_sound {ty : TypeId} {x cx i ci : Value} {k : Value → Option α} (hx : VRel ρ n x cx) (hi : VRel ρ n i ci) (hk : aIndex P ty x i k = some r) :
    Val P ρ n w (Instr.index ty cx ci) k r := by
  unfold aIndex at hk
  split at hk
  · rename_i ik m
    rw [hi.int_inv]
    split at hk
    · rename_i len e cs hu
      obtain ⟨ys, rfl, hl⟩ := hx.agg_inv
      split at hk
      · rename_i j hj
        split at hk
        · rename_i hm
          obtain ⟨v, cv, g1, g2, g3⟩ := part_sound (w := w) hl hk
          exact ⟨v, cv, g1, by simp [Instr.index, run_underlying hu, asIntOf, hm, run_sizeOf' hj, g2], g3⟩
        · cases hk
      · cases hk
    · rename_i s hu
      rw [hx.string_inv]
      split at hk
      · rename_i hm
        split at hk
        · rename_i b hb
          exact ⟨_, _, hk, by simp [Instr.index, run_underlying hu, asIntOf, hm, hb], .sc _ rfl⟩
        · cases hk
      · cases hk
    · cases hk
  · cases hk

theorem zero_closed {ty : TypeId} {i : TypeInfo} {z : Value} (h1 : P.info? ty = some i) (h2 : i.zero = some z) (w : World) : (zeroValue ty).run P w = .ok z w := run_zeroValue h1 h2 w

theorem pair_rel {a b c d : Value} (h1 : VRel ρ n a c) (h2 : VRel ρ n b d) : VRel ρ n (.tuple #[a, b]) (.tuple #[c, d]) := by
  simpa using (LRel.cons h1 (LRel.cons h2 LRel.nil)).tuple

theorem assert_sound {xt ty : TypeId} {x cx : Value} {ok : Bool} {k : Value → Option α} (hx : VRel ρ n x cx) (hk : aAssert P x ty ok k = some r) :
    Val P ρ n w (Instr.typeAssert cx xt ty ok) k r := by
  unfold aAssert at hk
  split at hk
  · cases hk
  · rename_i d u v hne hu
    have hnot : ∀ m, d ≠ .interface m := fun m e => hne m e
    cases hx with
    | sc _ h => simp [scalar] at h
    | iface t v c hv =>
      split at hk
      · rename_i e
        subst e
        cases ok
        · simp only [cond_false] at hk
          refine ⟨_, c, hk, ?_, hv⟩
          simp only [Instr.typeAssert, Sem.run_bind, run_underlying hu, Result.andThen_ok]
          cases d <;> first | exact absurd rfl (hnot _) | simp
        · simp only [cond_true] at hk
          refine ⟨_, .tuple #[c, .bool true], hk, ?_, pair_rel hv (.sc _ rfl)⟩
          simp only [Instr.typeAssert, Sem.run_bind, run_underlying hu, Result.andThen_ok]
          cases d <;> first | exact absurd rfl (hnot _) | simp
      · rename_i e
        cases ok
        · simp at hk
        · simp only [cond_true] at hk
          split at hk
          · rename_i i hi
            split at hk
            · rename_i z hz
              cases hcl : closed z
              · simp [hcl] at hk
              · simp only [hcl, cond_true] at hk
                refine ⟨_, .tuple #[z, .bool false], hk, ?_, pair_rel (.closed hcl) (.sc _ rfl)⟩
                simp only [Instr.typeAssert, Sem.run_bind, run_underlying hu, Result.andThen_ok]
                cases d <;> first | exact absurd rfl (hnot _) | simp [e, run_zeroValue hi hz]
            · cases hk
          · cases hk
  · rename_i d hne hu
    have hnot : ∀ m, d ≠ .interface m := fun m e => hne m e
    rw [hx.scalar_eq rfl]
    cases ok
    · simp at hk
    · simp only [cond_true] at hk
      split at hk
      · rename_i i hi
        split at hk
        · rename_i z hz
          cases hcl : closed z
          · simp [hcl] at hk
          · simp only [hcl, cond_true] at hk
            refine ⟨_, .tuple #[z, .bool false], hk, ?_, pair_rel (.closed hcl) (.sc _ rfl)⟩
            simp only [Instr.typeAssert, Sem.run_bind, run_underlying hu, Result.andThen_ok]
            cases d <;> first | exact absurd rfl (hnot _) | simp [run_zeroValue hi hz]
        · cases hk
      · cases hk
  · cases hk

end Go.Det
