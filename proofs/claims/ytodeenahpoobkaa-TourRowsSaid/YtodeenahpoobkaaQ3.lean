/- Slices of whole numbers and of pairs: what is read of them. -/
import Derived.Test.YtodeenahpoobkaaN1
import Derived.Test.YtodeenahpoobkaaQ2
import Derived.Test.YtodeenahpoobkaaE7
set_option autoImplicit false
set_option linter.unusedVariables false
set_option linter.unusedSimpArgs false
namespace Go.Det
abbrev eZ (x : Int) : List Value := [(Value.int .i64 x)]
theorem eZ_len (x : Int) : (eZ x).length = 1 := rfl
abbrev eZ2 (x : Int × Int) : List Value := [(Value.int .i64 x.1), (Value.int .i64 x.2)]
theorem eZ2_len (x : Int × Int) : (eZ2 x).length = 2 := rfl
variable {h : Heap} {v : Value}
theorem Sl.getI {xs : List Int} (S : Sl h 1 eZ v xs) {k : Nat} {x : Int} (hx : xs[k]? = some x) :
    (∀ {α : Type} (kk : Value → Option α), ixS 1 v (k : Int) kk = kk ((Value.pointer (some ⟨slB v, slO v + k, none⟩)))) ∧ rd h (slB v) (slO v + k) = some ((Value.int .i64 x)) := by
  have h1 : k < xs.length := (List.getElem?_eq_some_iff.1 hx).1
  refine ⟨fun kk => ?_, ?_⟩
  · rw [S.ix (by omega) (by omega) kk, Nat.mul_one, Int.toNat_natCast]
  · have := S.cell hx (j := 0) (by decide)
    rw [Nat.mul_one, Nat.add_zero] at this
    exact this
end Go.Det
/- The document's forest: which node is above, the root of a row. -/
namespace Go.Det.U
end Go.Det.U
namespace Go.Det.E
open Go.Proofs Go.Det Go.Det.U
attribute [local congr] bind_c cond_c
abbrev eU (x : Int) : List Value := [(Value.int .u64 x)]
theorem eU_len (x : Int) : (eU x).length = 1 := rfl
abbrev eBo (x : Bool) : List Value := [(Value.bool x)]
theorem Sl.getU {h : Heap} {v : Value} {xs : List Int} (S : Sl h 1 eU v xs) {k : Nat} {x : Int} (hx : xs[k]? = some x) :
    (∀ {α : Type} (kk : Value → Option α), ixS 1 v (k : Int) kk = kk ((Value.pointer (some ⟨slB v, slO v + k, none⟩)))) ∧ rd h (slB v) (slO v + k) = some ((Value.int .u64 x)) := by
  have h1 : k < xs.length := (List.getElem?_eq_some_iff.1 hx).1
  refine ⟨fun kk => ?_, ?_⟩
  · rw [S.ix (by omega) (by omega) kk, Nat.mul_one, Int.toNat_natCast]
  · have := S.cell hx (j := 0) (by decide)
    rw [Nat.mul_one, Nat.add_zero] at this
    exact this
/-- The forest's priorities, marks and vertices in memory. -/
structure FoH (h : Heap) (P M W : Value) (N : Nat) (pr : Int → Int) (mk : Int → Nat) (vx : Int → Bool) : Prop where
  pri : ∃ us, Sl h 1 eU P us ∧ us.length = N + 1 ∧ ∀ x : Nat, 1 ≤ x → x ≤ N → us[x]? = some (pr x)
  mar : ∃ ms, Sl h 1 eZ M ms ∧ ms.length = N + 1 ∧ ∀ x : Nat, 1 ≤ x → x ≤ N → ms[x]? = some (mk x : Int)
  ver : ∃ ws, Sl h 1 eBo W ws ∧ ws.length = N + 1 ∧ ∀ x : Nat, 1 ≤ x → x ≤ N → ws[x]? = some (vx x)
variable {md : Md} {h hh : Heap} {P M W R : Value} {N : Nat} {pr : Int → Int} {mk : Int → Nat} {vx : Int → Bool} {x y : Int}
theorem FoH.heap {h' : Heap} (F : FoH h P M W N pr mk vx) (hp : slB P < h.length → h'[slB P]? = h[slB P]?) (hm : slB M < h.length → h'[slB M]? = h[slB M]?) (hw : slB W < h.length → h'[slB W]? = h[slB W]?) : FoH h' P M W N pr mk vx := by
  obtain ⟨⟨us, a1, a2⟩, ⟨ms, b1, b2⟩, ⟨ws, c1, c2⟩⟩ := F
  exact ⟨⟨us, a1.heap hp, a2⟩, ⟨ms, b1.heap hm, b2⟩, ⟨ws, c1.heap hw, c2⟩⟩
theorem FoH.app (F : FoH h P M W N pr mk vx) (bs : Heap) : FoH (h ++ bs) P M W N pr mk vx := F.heap (fun q => List.getElem?_append_left q) (fun q => List.getElem?_append_left q) (fun q => List.getElem?_append_left q)
end Go.Det.E

/- The document's forest: the nodes of a tree. -/
namespace Go.Det
theorem lay_eq : ∀ (vs cs : List Value) (i : Nat), i + vs.length ≤ cs.length → lay cs i vs = cs.take i ++ (vs ++ cs.drop (i + vs.length)) := by
  intro vs
  induction vs with
  | nil => intro cs i h; simp [lay]
  | cons v vs ih =>
    intro cs i h
    simp only [List.length_cons] at h
    rw [lay, ih _ _ (by simp; omega)]
    have e : cs.set i v = cs.take i ++ v :: cs.drop (i + 1) := by
      rw [List.set_eq_take_append_cons_drop, if_pos (by omega)]
    have hl : (cs.take i).length = i := by rw [List.length_take]; omega
    rw [e]
    have e1 : (cs.take i ++ v :: cs.drop (i + 1)).take (i + 1) = cs.take i ++ [v] := by
      conv => lhs; rw [← hl]
      rw [hl, show i + 1 = (cs.take i).length + 1 by omega, List.take_length_add_append]; simp
    have e2 : (cs.take i ++ v :: cs.drop (i + 1)).drop (i + 1 + vs.length) = cs.drop (i + (vs.length + 1)) := by
      rw [show i + 1 + vs.length = (cs.take i).length + (1 + vs.length) by omega, List.drop_length_add_append, Nat.add_comm 1, List.drop_succ_cons, List.drop_drop]
      congr 1; omega
    rw [e1, e2]
    simp
theorem lay_flat {ε : Type} {enc : ε → List Value} {sz : Nat} (he : ∀ x, (enc x).length = sz) (xs : List ε) {k : Nat} (x : ε) (hk : k < xs.length) : lay (flat enc xs) (k * sz) (enc x) = flat enc (xs.set k x) := by
  have hm : (k + 1) * sz ≤ xs.length * sz := Nat.mul_le_mul_right _ hk
  rw [Nat.succ_mul] at hm
  rw [lay_eq _ _ _ (by rw [he, flat_len he]; omega), he, List.set_eq_take_append_cons_drop, if_pos hk, flat_app, flat_cons, flat_take he]
  congr 2
  rw [← flat_drop he, Nat.succ_mul]
theorem wr_at {md : Md} {h : Heap} {b i : Nat} {cs vs : List Value} (hb : h[b]? = some (.own cs)) (hi : i + vs.length ≤ cs.length) (hro : md.ro ≤ b) (hs : md.lim ≤ b ∨ vs.all scalar = true) : wrN md h b i vs = some (h.set b (.own (lay cs i vs))) := by
  unfold wrN
  rw [hb]
  simp only []
  rw [if_pos hi, if_pos ⟨hro, hs⟩]
variable {P : Program} {ε : Type}
/-- The first ones: the same block. -/
theorem Sl.preB {h : Heap} {sz bytes : Nat} {enc : ε → List Value} {v : Value} {xs : List ε} {ty e : TypeId} {z : List Value} (T : SlT P ty e sz bytes z) (S : Sl h sz enc v xs) {k : Int} (h0 : 0 ≤ k) (h1 : k ≤ xs.length) :
    ∃ v', (∀ {α : Type} (kk : Value → Option α), aSlice P ty v none (some (.int .i64 k)) none kk = kk v') ∧ slB v' = slB v ∧ Sl h sz enc v' (xs.take k.toNat) := by
  obtain ⟨j, hj, e1, e2⟩ := T.info
  rcases S.is with ⟨rfl, rfl⟩ | ⟨b, o, kb, rfl, hb, hc, hl2⟩
  · have : k = 0 := by simp at h1; omega
    subst this
    refine ⟨.slice none 0 0, fun kk => ?_, rfl, by simpa using Sl.nil h S.he⟩
    unfold aSlice
    simp [T.hu, hj]
  · refine ⟨.slice (some ⟨b, o, none⟩) k.toNat sz, fun kk => ?_, rfl, ?_⟩
    · unfold aSlice
      simp only [T.hu, hj]
      rw [if_pos ⟨by omega, h0, h1, .inr e1.symm⟩]
      simp
    · have hk : (xs.take k.toNat).length = k.toNat := by rw [List.length_take]; omega
      have hm : k.toNat * sz ≤ xs.length * sz := Nat.mul_le_mul_right _ (by omega)
      refine Sl.part S.he hb ?_ (by rw [hk]; omega) hk.symm
      rw [hk, ← flat_take S.he, ← hc, List.take_take, Nat.min_eq_left hm]
/-- The last ones: the same block. -/
theorem Sl.sufB {h : Heap} {sz bytes : Nat} {enc : ε → List Value} {v : Value} {xs : List ε} {ty e : TypeId} {z : List Value} (T : SlT P ty e sz bytes z) (S : Sl h sz enc v xs) {k : Int} (h0 : 0 ≤ k) (h1 : k ≤ xs.length) :
    ∃ v', (∀ {α : Type} (kk : Value → Option α), aSlice P ty v (some (.int .i64 k)) none none kk = kk v') ∧ slB v' = slB v ∧ Sl h sz enc v' (xs.drop k.toNat) := by
  obtain ⟨j, hj, e1, e2⟩ := T.info
  rcases S.is with ⟨rfl, rfl⟩ | ⟨b, o, kb, rfl, hb, hc, hl2⟩
  · have : k = 0 := by simp at h1; omega
    subst this
    refine ⟨.slice none 0 0, fun kk => ?_, rfl, by simpa using Sl.nil h S.he⟩
    unfold aSlice
    simp [T.hu, hj]
  · have hk : (xs.drop k.toNat).length = xs.length - k.toNat := List.length_drop
    have hm : k.toNat * sz + (xs.length - k.toNat) * sz = xs.length * sz := by rw [← Nat.add_mul]; congr 1; omega
    refine ⟨.slice (some ⟨b, o + k.toNat * sz, none⟩) (xs.length - k.toNat) sz, fun kk => ?_, rfl, ?_⟩
    · unfold aSlice
      simp only [T.hu, hj]
      rw [if_pos ⟨h0, h1, by omega, .inr e1.symm⟩]
      have : ((xs.length : Int) - k).toNat = xs.length - k.toNat := by omega
      rw [this, e1]
    · refine Sl.part S.he hb ?_ (by rw [hk]; omega) hk.symm
      have := flat_drop S.he xs k.toNat
      rw [← hc, List.drop_take, List.drop_drop] at this
      rw [hk, ← this]
      congr 1
      omega
end Go.Det
namespace Go.Det.U
structure RN where
  p : Int
  l : Int
  r : Int
  s : Int
  v : Int
  m : Int
  a : Int
end Go.Det.U
namespace Go.Det.E
open Go.Proofs Go.Det Go.Det.U
attribute [local congr] bind_c cond_c
theorem tInt9 : SlT Try.prog 44 3 1 8 [(Value.int .i64 0)] := ⟨by kernel_rfl, by kernel_rfl, by kernel_rfl, rfl, by decide, by decide, rfl⟩
variable {md : Md} {h hh k : Heap} {P M W R rv s8 : Value} {N ob : Nat} {pr : Int → Int} {mk : Int → Nat} {vx : Int → Bool} {x y p : Int} {ns ns' : List RN}
/-- What the document tells of a tree's nodes. -/
def nodeOf (mk : Int → Nat) (vx : Int → Bool) (l : Tr) (x : Int) (r : Tr) (p : Int) : RN := ⟨p, l.rt, r.rt, (Tr.nd l x r).sz, (Tr.nd l x r).nv vx, mk x, (Tr.nd l x r).am mk⟩
def Told (mk : Int → Nat) (vx : Int → Bool) (ns : List RN) : Tr → Int → Prop
  | .nil, _ => True
  | .nd l x r, p => ns[x.toNat]? = some (nodeOf mk vx l x r p) ∧ Told mk vx ns l x ∧ Told mk vx ns r x
theorem Told.congr {t : Tr} {p : Int} (h : ∀ y ∈ t.row, ns'[y.toNat]? = ns[y.toNat]?) (T : Told mk vx ns t p) : Told mk vx ns' t p := by
  induction t generalizing p with
  | nil => trivial
  | nd l x r hl hr => exact ⟨(h x (by simp [Tr.row])).trans T.1, hl (fun y hy => h y (by simp [Tr.row, hy])) T.2.1, hr (fun y hy => h y (by simp [Tr.row, hy])) T.2.2⟩
end Go.Det.E

/- The document's forest: a tree's nodes are written. -/
namespace Go.Det.E
open Go.Proofs Go.Det Go.Det.U
attribute [local congr] bind_c cond_c
variable {md : Md} {h hh k : Heap} {P M W R rv s8 : Value} {N ob : Nat} {pr : Int → Int} {mk : Int → Nat} {vx : Int → Bool} {x y p : Int} {ns ns' : List RN}
theorem set_same {h : Heap} {b : Nat} {v : Blk} (hb : b < h.length) : (h.set b v)[b]? = some v := by rw [List.getElem?_set_self hb]
theorem set_else {h : Heap} {b y : Nat} {v : Blk} (hy : y ≠ b) : (h.set b v)[y]? = h[y]? := List.getElem?_set_ne (Ne.symm hy)
end Go.Det.E

/- The document's forest: all nodes, and a node's sum. -/
namespace Go.Det.E
open Go.Proofs Go.Det Go.Det.U
attribute [local congr] bind_c cond_c
variable {md : Md} {h hh k : Heap} {P M W R rv s8 : Value} {N ob : Nat} {pr : Int → Int} {mk : Int → Nat} {vx : Int → Bool} {x y p : Int} {ns ns' : List RN} {ts : List Tr} {rvs : List Value}
abbrev eV (v : Value) : List Value := [v]
theorem eV_len (v : Value) : (eV v).length = 1 := rfl
theorem Sl.getV {v : Value} {xs : List Value} (S : Sl h 1 eV v xs) {k : Nat} {x : Value} (hx : xs[k]? = some x) :
    (∀ {α : Type} (kk : Value → Option α), ixS 1 v (k : Int) kk = kk ((Value.pointer (some ⟨slB v, slO v + k, none⟩)))) ∧ rd h (slB v) (slO v + k) = some x := by
  have h1 : k < xs.length := (List.getElem?_eq_some_iff.1 hx).1
  refine ⟨fun kk => ?_, ?_⟩
  · rw [S.ix (by omega) (by omega) kk, Nat.mul_one, Int.toNat_natCast]
  · have := S.cell hx (j := 0) (by decide)
    rw [Nat.mul_one, Nat.add_zero] at this
    exact this
theorem Sl.slB_le {ε : Type} {enc : ε → List Value} {sz : Nat} {v : Value} {xs : List ε} (S : Sl h sz enc v xs) : slB v < h.length + 1 := by
  rcases S.is with ⟨rfl, rfl⟩ | ⟨b, o, kk, rfl, hb, hc, hl⟩
  · show 0 < _; omega
  · have := (List.getElem?_eq_some_iff.1 hb).1
    show b < _; omega
/-- Rows in memory. -/
structure RowsH (h : Heap) (R : Value) (ts : List Tr) (rvs : List Value) : Prop where
  sl : Sl h 1 eV R rvs
  len : rvs.length = ts.length
  at_ : ∀ (i : Nat) (rv : Value) (t : Tr), rvs[i]? = some rv → ts[i]? = some t → Sl h 1 eZ rv t.row
theorem RowsH.heap {h' : Heap} (H : RowsH h R ts rvs) (hk : ∀ y, y < h.length → h'[y]? = h[y]?) : RowsH h' R ts rvs :=
  ⟨H.sl.heap (hk _), H.len, fun i rv t h1 h2 => (H.at_ i rv t h1 h2).heap (hk _)⟩
end Go.Det.E

/- Trees in memory: marks asked for, the root, a node's place. -/
namespace Go.Det.E
open Go.Proofs Go.Det Go.Det.U
attribute [local congr] bind_c cond_c
variable {md : Md} {h hh : Heap} {a b : Nat} {V S T x v p f : Int} {l c : List Int} {l0 : Int → Int} {s s' : NS} {sz nv own all : Nat} {mk mk' : Int → Nat} {vx : Int → Bool}
/-- From a node the loop comes to the root. -/
theorem root_up {s4 : Value} (hR : Rt V S T) (hro : md.ro ≤ a) (hr : md.ro ≤ hh.length) (la : a < hh.length) (lb : b < hh.length) : ∀ (t : Tr) (p : Int) (k : Heap), Only a b (hh ++ [Blk.own [(Value.int .i64 V), (Value.int .i64 S), (Value.int .i64 T), ifA a, (Value.int .i64 1), (Value.int .i64 0)]]) k → TH V S T l0 a b s k → Ch V S p → IsT mk (vxB V) s t p → (∀ y ∈ t.row, Nix V S y) → x ∈ t.row →
    ∃ k', J21_0 C ⟨md.ro, hh.length⟩ hh ((Value.int .i64 x)) ((Value.pointer (some ⟨hh.length, 0, none⟩))) s4 k = J21_0 C ⟨md.ro, hh.length⟩ hh ((Value.int .i64 t.rt)) ((Value.pointer (some ⟨hh.length, 0, none⟩))) s4 k' ∧ TH V S T l0 a b s k' ∧ Only a b (hh ++ [Blk.own [(Value.int .i64 V), (Value.int .i64 S), (Value.int .i64 T), ifA a, (Value.int .i64 1), (Value.int .i64 0)]]) k' := by
  intro t
  induction t with
  | nil => intro p k _ _ _ _ _ hx; simp [Tr.row] at hx
  | nd l y r ihl ihr =>
    intro p k o A hp I h0 hx
    obtain ⟨a1, a2, a3, a4, a5, a6⟩ := I
    have hy := h0 y (by simp [Tr.row])
    -- a round from a child
    have round : ∀ (z : Int) (k1 : Heap), Only a b (hh ++ [Blk.own [(Value.int .i64 V), (Value.int .i64 S), (Value.int .i64 T), ifA a, (Value.int .i64 1), (Value.int .i64 0)]]) k1 → TH V S T l0 a b s k1 → Nix V S z → s.par z = y → ∃ k', J21_0 C ⟨md.ro, hh.length⟩ hh ((Value.int .i64 z)) ((Value.pointer (some ⟨hh.length, 0, none⟩))) s4 k1 = J21_0 C ⟨md.ro, hh.length⟩ hh ((Value.int .i64 y)) ((Value.pointer (some ⟨hh.length, 0, none⟩))) s4 k' ∧ TH V S T l0 a b s k' ∧ Only a b (hh ++ [Blk.own [(Value.int .i64 V), (Value.int .i64 S), (Value.int .i64 T), ifA a, (Value.int .i64 1), (Value.int .i64 0)]]) k' := by
      intro z k1 o1 A1 hz e
      have t1 := tv6 (tvB (V := V) (S := S) (T := T) la lb o1)
      have ll1 := lkeep o1
      obtain ⟨g, f, A2, o2⟩ := tparent (md := ⟨md.ro, hh.length⟩) hR A1 hro (by show md.ro ≤ k1.length; omega) hz (by rw [e]; exact ch_small hR (.inr hy))
      rw [e] at f
      have zn : (z != 0) = true := by rw [bne_iff_ne]; omega
      have yn : (y == 0) = false := by rw [beq_eq_false_iff_ne]; omega
      refine ⟨g, ?_, A2, o1.trans o2⟩
      rw [J21_0_step]
      unfold Jr21_0
      simp only [go_sem, Nat.reduceAdd, Nat.reduceLeDiff, Nat.reduceMul, Int.reduceBEq, Int.reduceBNe, Int.reduceLT, Int.reduceLE, Int.reduceGT, aBin_neq, zn, t1, f, yn]
    have sub : ∀ (u : Tr), IsT mk (vxB V) s u y → (∀ z ∈ u.row, Nix V S z) → x ∈ u.row → (∃ k', J21_0 C ⟨md.ro, hh.length⟩ hh ((Value.int .i64 x)) ((Value.pointer (some ⟨hh.length, 0, none⟩))) s4 k = J21_0 C ⟨md.ro, hh.length⟩ hh ((Value.int .i64 u.rt)) ((Value.pointer (some ⟨hh.length, 0, none⟩))) s4 k' ∧ TH V S T l0 a b s k' ∧ Only a b (hh ++ [Blk.own [(Value.int .i64 V), (Value.int .i64 S), (Value.int .i64 T), ifA a, (Value.int .i64 1), (Value.int .i64 0)]]) k') → ∃ k', J21_0 C ⟨md.ro, hh.length⟩ hh ((Value.int .i64 x)) ((Value.pointer (some ⟨hh.length, 0, none⟩))) s4 k = J21_0 C ⟨md.ro, hh.length⟩ hh ((Value.int .i64 y)) ((Value.pointer (some ⟨hh.length, 0, none⟩))) s4 k' ∧ TH V S T l0 a b s k' ∧ Only a b (hh ++ [Blk.own [(Value.int .i64 V), (Value.int .i64 S), (Value.int .i64 T), ifA a, (Value.int .i64 1), (Value.int .i64 0)]]) k' := by
      intro u Iu hu hxu ⟨k1, e1, A1, o1⟩
      have ne : u ≠ .nil := fun e => by rw [e] at hxu; simp [Tr.row] at hxu
      obtain ⟨k2, e2, A2, o2⟩ := round u.rt k1 o1 A1 (hu _ (rt_mem ne)) (Iu.par ne)
      exact ⟨k2, e1.trans e2, A2, o2⟩
    rw [rt_nd]
    simp only [Tr.row, List.mem_append, List.mem_cons] at hx
    rcases hx with q | q | q
    · exact sub l a5 (fun z hz => h0 z (by simp [Tr.row, hz])) q (ihl y k o A (.inr hy) a5 (fun z hz => h0 z (by simp [Tr.row, hz])) q)
    · subst q; exact ⟨k, rfl, A, o⟩
    · exact sub r a6 (fun z hz => h0 z (by simp [Tr.row, hz])) q (ihr y k o A (.inr hy) a6 (fun z hz => h0 z (by simp [Tr.row, hz])) q)
theorem tRoot (hR : Rt V S T) {t : Tr} (A : TH V S T l0 a b s h) (hro : md.ro ≤ a) (hr : md.ro ≤ h.length) (I : IsT mk (vxB V) s t 0) (h0 : ∀ y ∈ t.row, Nix V S y) (hx : x ∈ t.row) :
    ∃ h', C md 21 [(Value.agg #[(Value.int .i64 V), (Value.int .i64 S), (Value.int .i64 T), ifA a, (Value.int .i64 1), (Value.int .i64 0)]), (Value.int .i64 x)] h = some ((Value.int .i64 t.rt), h') ∧ TH V S T l0 a b s h' ∧ Only a b h h' := by
  obtain ⟨la, lb⟩ := A.la
  have ne : t ≠ .nil := fun e => by rw [e] at hx; simp [Tr.row] at hx
  have hy := h0 _ (rt_mem ne)
  obtain ⟨k1, e1, A1, o1⟩ := root_up (md := md) (s4 := (Value.int .i64 0)) hR hro hr la lb t 0 (h ++ [Blk.own [(Value.int .i64 V), (Value.int .i64 S), (Value.int .i64 T), ifA a, (Value.int .i64 1), (Value.int .i64 0)]]) Only.refl (A.app _) (.inl rfl) I h0 hx
  have t1 := tv6 (tvB (V := V) (S := S) (T := T) la lb o1)
  have ll1 := lkeep o1
  have ep := I.par ne
  obtain ⟨g, f, A2, o2'⟩ := tparent (md := ⟨md.ro, h.length⟩) hR A1 hro (by show md.ro ≤ k1.length; omega) hy (by rw [ep]; omega)
  rw [ep] at f
  have o2 := o1.trans o2'
  have yn : (t.rt != 0) = true := by rw [bne_iff_ne]; omega
  refine ⟨g.take h.length, ?_, A2.take la lb, o2.take⟩
  rw [C, call_eq, F21_eq]
  unfold F21
  simp only [go_sem, Nat.reduceAdd, Nat.reduceLeDiff, Nat.reduceMul, Int.reduceBEq, Int.reduceBNe, Int.reduceLT, Int.reduceLE, Int.reduceGT]
  rw [e1, J21_0_step]
  unfold Jr21_0
  have z : ((0 : Int) == 0) = true := rfl
  simp only [go_sem, Nat.reduceAdd, Nat.reduceLeDiff, Nat.reduceMul, Int.reduceBEq, Int.reduceBNe, Int.reduceLT, Int.reduceLE, Int.reduceGT, aBin_neq, yn, t1, f, z, Jk21_0]
end Go.Det.E

/- Trees in memory: a node's place, a tree's row. -/
namespace Go.Det.E
open Go.Proofs Go.Det Go.Det.U
attribute [local congr] bind_c cond_c
variable {md : Md} {h hh : Heap} {a b : Nat} {V S T x v p f : Int} {l c : List Int} {l0 : Int → Int} {s s' : NS} {sz nv own all : Nat} {mk mk' : Int → Nat} {vx : Int → Bool}
theorem index_up {s4 : Value} (hR : Rt V S T) (hm : ∀ y, mk y < 4) (hro : md.ro ≤ a) (hr : md.ro ≤ hh.length) (la : a < hh.length) (lb : b < hh.length) : ∀ (t : Tr) (p : Int), Ch V S p → IsT mk (vxB V) s t p → t.row.Nodup → (∀ y ∈ t.row, Nix V S y) → t.sz < 60000 → x ∈ t.row →
    ∃ (L : Tr) (i : Nat), s.lf x = L.rt ∧ IsT mk (vxB V) s L x ∧ (∀ y ∈ L.row, y ∈ t.row) ∧ L.sz ≤ t.sz ∧ t.row[i]? = some x ∧ ∀ k, Only a b (hh ++ [Blk.own [(Value.int .i64 V), (Value.int .i64 S), (Value.int .i64 T), ifA a, (Value.int .i64 1), (Value.int .i64 0)]]) k → TH V S T l0 a b s k → ∃ k', J22_0 C ⟨md.ro, hh.length⟩ hh ((Value.int .i64 x)) ((Value.pointer (some ⟨hh.length, 0, none⟩))) s4 ((Value.int .i64 ((L.sz : Int)))) k = J22_0 C ⟨md.ro, hh.length⟩ hh ((Value.int .i64 t.rt)) ((Value.pointer (some ⟨hh.length, 0, none⟩))) s4 ((Value.int .i64 ((i : Int)))) k' ∧ TH V S T l0 a b s k' ∧ Only a b (hh ++ [Blk.own [(Value.int .i64 V), (Value.int .i64 S), (Value.int .i64 T), ifA a, (Value.int .i64 1), (Value.int .i64 0)]]) k' := by
  intro t
  induction t with
  | nil => intro p _ _ _ _ _ hx; simp [Tr.row] at hx
  | nd l y r ihl ihr =>
    intro p hp I hn h0 hz hx
    obtain ⟨a1, a2, a3, a4, a5, a6⟩ := I
    have hn' : (l.row ++ y :: r.row).Nodup := hn
    have pp := parts_of (V := V) (S := S) hn'
    have hy := h0 y (by simp [Tr.row])
    have hy' := nix_small hR hy
    have h0l : ∀ z ∈ l.row, Nix V S z := fun z hz => h0 z (by simp [Tr.row, hz])
    have h0r : ∀ z ∈ r.row, Nix V S z := fun z hz => h0 z (by simp [Tr.row, hz])
    simp only [Tr.sz] at hz
    rw [rt_nd]
    -- a round from a child
    have round : ∀ (u : Tr) (j : Nat) (k1 : Heap), u ≠ .nil → IsT mk (vxB V) s u y → (∀ z ∈ u.row, Nix V S z) → j < 60000 → Only a b (hh ++ [Blk.own [(Value.int .i64 V), (Value.int .i64 S), (Value.int .i64 T), ifA a, (Value.int .i64 1), (Value.int .i64 0)]]) k1 → TH V S T l0 a b s k1 → ∃ k', J22_0 C ⟨md.ro, hh.length⟩ hh ((Value.int .i64 u.rt)) ((Value.pointer (some ⟨hh.length, 0, none⟩))) s4 ((Value.int .i64 ((j : Int)))) k1 = J22_0 C ⟨md.ro, hh.length⟩ hh ((Value.int .i64 y)) ((Value.pointer (some ⟨hh.length, 0, none⟩))) s4 ((Value.int .i64 (((bif r.rt == u.rt then j + (1 + l.sz) else j : Nat) : Int)))) k' ∧ TH V S T l0 a b s k' ∧ Only a b (hh ++ [Blk.own [(Value.int .i64 V), (Value.int .i64 S), (Value.int .i64 T), ifA a, (Value.int .i64 1), (Value.int .i64 0)]]) k' := by
      intro u j k1 ne Iu hu hj o1 A1
      have e := Iu.par ne
      have hz1 := hu _ (rt_mem ne)
      have t1 := tv6 (tvB (V := V) (S := S) (T := T) la lb o1)
      have ll1 := lkeep o1
      obtain ⟨g, f, A2, o2'⟩ := tparent (md := ⟨md.ro, hh.length⟩) hR A1 hro (by show md.ro ≤ k1.length; omega) hz1 (by rw [e]; exact ch_small hR (.inr hy))
      rw [e] at f
      have o2 := o1.trans o2'
      have t2 := tv6 (tvB (V := V) (S := S) (T := T) la lb o2)
      have ll2 := lkeep o2
      obtain ⟨g3, f3, A3, o3'⟩ := tget4 (md := ⟨md.ro, hh.length⟩) hR A2 hro hy (by rw [a3]; exact ch_small hR (rt_ch h0r))
      rw [a3] at f3
      have o3 := o2.trans o3'
      have t3 := tv6 (tvB (V := V) (S := S) (T := T) la lb o3)
      have ll3 := lkeep o3
      have yn : (y == 0) = false := by rw [beq_eq_false_iff_ne]; omega
      cases hc : (r.rt == u.rt)
      · refine ⟨g3, ?_, A3, o3⟩
        rw [J22_0_step]
        unfold Jr22_0
        simp only [go_sem, Nat.reduceAdd, Nat.reduceLeDiff, Nat.reduceMul, Int.reduceBEq, Int.reduceBNe, Int.reduceLT, Int.reduceLE, Int.reduceGT, t1, f, yn, t2, f3, aBin_eql, hc]
      · obtain ⟨g4, f4, A4, o4'⟩ := tget3 (md := ⟨md.ro, hh.length⟩) hR A3 hro hy (by rw [a2]; exact ch_small hR (rt_ch h0l))
        rw [a2] at f4
        have o4 := o3.trans o4'
        have t4 := tv6 (tvB (V := V) (S := S) (T := T) la lb o4)
        obtain ⟨ol, kl, sl⟩ := smok_tr (vx := vxB V) hm l (by omega)
        obtain ⟨g5, f5, A5, o5'⟩ := tsize (md := ⟨md.ro, hh.length⟩) hR A4 hro (rt_ch h0l) kl ((sum_of a5.body fun z hz => (h0l z hz).1).trans sl)
        have w1 : IntKind.wrap .i64 ((j : Int) + IntKind.wrap .i64 (1 + (l.sz : Int))) = ((j + (1 + l.sz) : Nat) : Int) := by
          rw [wi (x := 1 + (l.sz : Int)) (by omega) (by omega), wi (by omega) (by omega)]; omega
        refine ⟨g5, ?_, A5, o4.trans o5'⟩
        rw [J22_0_step]
        unfold Jr22_0
        simp only [go_sem, Nat.reduceAdd, Nat.reduceLeDiff, Nat.reduceMul, Int.reduceBEq, Int.reduceBNe, Int.reduceLT, Int.reduceLE, Int.reduceGT, t1, f, yn, t2, f3, aBin_eql, hc, t3, f4, cLE_t, f5, aBin_add, w1, t4]
    simp only [Tr.row, List.mem_append, List.mem_cons] at hx
    rcases hx with q | q | q
    · obtain ⟨L, i, e1, e2, e3, e4, e5, e6⟩ := ihl y (.inr hy) a5 pp.nl h0l (by omega) q
      have il := (List.getElem?_eq_some_iff.1 e5).1
      have ne : l ≠ .nil := fun e => by rw [e] at q; simp [Tr.row] at q
      have hc : (r.rt == l.rt) = false := by
        rw [beq_eq_false_iff_ne]
        intro e
        rcases rt_in r with w | w
        · have := h0l _ (rt_mem ne); omega
        · exact pp.lr _ (rt_mem ne) (e ▸ w)
      have ls := l.row_len
      refine ⟨L, i, e1, e2, fun z hz => by simp [Tr.row, e3 z hz], by simp only [Tr.sz]; omega, ?_, fun k o A => ?_⟩
      · show (l.row ++ y :: r.row)[i]? = some x
        rw [List.getElem?_append_left il]; exact e5
      · obtain ⟨k1, f1, A1, o1⟩ := e6 k o A
        obtain ⟨k2, f2, A2, o2⟩ := round l i k1 ne a5 h0l (by omega) o1 A1
        rw [hc] at f2
        exact ⟨k2, f1.trans f2, A2, o2⟩
    · subst q
      refine ⟨l, l.sz, a2, a5, fun z hz => by simp [Tr.row, hz], by simp only [Tr.sz]; omega, ?_, fun k o A => ⟨k, rfl, A, o⟩⟩
      show (l.row ++ x :: r.row)[l.sz]? = some x
      rw [← Tr.row_len, List.getElem?_append_right (Nat.le_refl _)]; simp
    · obtain ⟨L, i, e1, e2, e3, e4, e5, e6⟩ := ihr y (.inr hy) a6 pp.nr h0r (by omega) q
      have il := (List.getElem?_eq_some_iff.1 e5).1
      have ne : r ≠ .nil := fun e => by rw [e] at q; simp [Tr.row] at q
      have hc : (r.rt == r.rt) = true := by simp
      have ls := r.row_len
      refine ⟨L, i + (1 + l.sz), e1, e2, fun z hz => by simp [Tr.row, e3 z hz], by simp only [Tr.sz]; omega, ?_, fun k o A => ?_⟩
      · show (l.row ++ y :: r.row)[i + (1 + l.sz)]? = some x
        rw [← Tr.row_len l, List.getElem?_append_right (by omega), show i + (1 + l.row.length) - l.row.length = i + 1 by omega, List.getElem?_cons_succ]; exact e5
      · obtain ⟨k1, f1, A1, o1⟩ := e6 k o A
        obtain ⟨k2, f2, A2, o2⟩ := round r i k1 ne a6 h0r (by omega) o1 A1
        rw [hc] at f2
        exact ⟨k2, f1.trans f2, A2, o2⟩
theorem tIndex (hR : Rt V S T) (hm : ∀ y, mk y < 4) {t : Tr} (A : TH V S T l0 a b s h) (hro : md.ro ≤ a) (hr : md.ro ≤ h.length) (I : IsT mk (vxB V) s t 0) (hn : t.row.Nodup) (h0 : ∀ y ∈ t.row, Nix V S y) (hz : t.sz < 60000) (hx : x ∈ t.row) :
    ∃ (i : Nat) (h' : Heap), t.row[i]? = some x ∧ C md 22 [(Value.agg #[(Value.int .i64 V), (Value.int .i64 S), (Value.int .i64 T), ifA a, (Value.int .i64 1), (Value.int .i64 0)]), (Value.int .i64 x)] h = some ((Value.int .i64 ((i : Int))), h') ∧ TH V S T l0 a b s h' ∧ Only a b h h' := by
  obtain ⟨la, lb⟩ := A.la
  have ne : t ≠ .nil := fun e => by rw [e] at hx; simp [Tr.row] at hx
  have hy := h0 _ (rt_mem ne)
  have hxx := h0 _ hx
  obtain ⟨L, i, e1, e2, e3, e4, e5, e6⟩ := index_up (md := md) (s4 := (Value.int .i64 0)) (l0 := l0) (hh := h) (a := a) (b := b) hR hm hro hr la lb t 0 (.inl rfl) I hn h0 hz hx
  have hL0 : ∀ y ∈ L.row, Nix V S y := fun y hy => h0 y (e3 y hy)
  obtain ⟨g1, f1, A1, o1⟩ := tget3 (md := ⟨md.ro, h.length⟩) hR (A.app [Blk.own [(Value.int .i64 V), (Value.int .i64 S), (Value.int .i64 T), ifA a, (Value.int .i64 1), (Value.int .i64 0)]]) hro hxx (by rw [e1]; exact ch_small hR (rt_ch hL0))
  rw [e1] at f1
  have t1 := tv6 (tvB (V := V) (S := S) (T := T) la lb o1)
  obtain ⟨oL, kL, sL⟩ := smok_tr (vx := vxB V) hm L (by omega)
  obtain ⟨g2, f2, A2, o2'⟩ := tsize (md := ⟨md.ro, h.length⟩) hR A1 hro (rt_ch hL0) kL ((sum_of e2.body fun z hz => (hL0 z hz).1).trans sL)
  have o2 := o1.trans o2'
  obtain ⟨g3, f3, A3, o3⟩ := e6 g2 o2 A2
  have t3 := tv6 (tvB (V := V) (S := S) (T := T) la lb o3)
  have ll3 := lkeep o3
  have ep := I.par ne
  obtain ⟨g, f, A4, o4'⟩ := tparent (md := ⟨md.ro, h.length⟩) hR A3 hro (by show md.ro ≤ g3.length; omega) hy (by rw [ep]; omega)
  rw [ep] at f
  have o4 := o3.trans o4'
  refine ⟨i, g.take h.length, e5, ?_, A4.take la lb, o4.take⟩
  have z : ((0 : Int) == 0) = true := rfl
  rw [C, call_eq, F22_eq]
  unfold F22
  simp only [go_sem, Nat.reduceAdd, Nat.reduceLeDiff, Nat.reduceMul, Int.reduceBEq, Int.reduceBNe, Int.reduceLT, Int.reduceLE, Int.reduceGT, f1, t1, f2, cLE_t]
  rw [f3, J22_0_step]
  unfold Jr22_0
  simp only [go_sem, Nat.reduceAdd, Nat.reduceLeDiff, Nat.reduceMul, Int.reduceBEq, Int.reduceBNe, Int.reduceLT, Int.reduceLE, Int.reduceGT, t3, f, z, Jk22_0]
end Go.Det.E

/- Trees in memory: a tree's row. -/
namespace Go.Det.E
open Go.Proofs Go.Det Go.Det.U
attribute [local congr] bind_c cond_c
variable {md : Md} {h hh : Heap} {a b : Nat} {V S T x v p f : Int} {l c : List Int} {l0 : Int → Int} {s s' : NS} {sz nv own all : Nat} {mk mk' : Int → Nat} {vx : Int → Bool}
theorem SlO.heap2 {ε : Type} {enc : ε → List Value} {n0 n1 sz : Nat} {v : Value} {xs : List ε} (S : SlO h n0 sz enc v xs) (e : n0 ≤ slB v → hh[slB v]? = h[slB v]?) (hn : n1 ≤ n0) : SlO hh n1 sz enc v xs := by
  rcases S.own with q | ⟨h1, cs, h2⟩
  · have := S.sl
    rcases this.is with ⟨e1, e2⟩ | ⟨_, _, _, e2, _⟩
    · rw [e1, e2]; exact SlO.nil _ _ this.he
    · rw [q] at e2; cases e2
  · exact ⟨S.sl.heap fun _ => e h1, .inr ⟨by omega, cs, (e h1).trans h2⟩⟩
theorem tList (hR : Rt V S T) : ∀ (t : Tr) (h : Heap), TH V S T l0 a b s h → md.ro ≤ a → md.ro ≤ b → md.ro ≤ h.length → IsB mk (vxB V) s t → (∀ y ∈ t.row, Nix V S y) → t.sz < 60000 →
    ∃ v h', C md 20 [(Value.agg #[(Value.int .i64 V), (Value.int .i64 S), (Value.int .i64 T), ifA a, (Value.int .i64 1), (Value.int .i64 0)]), (Value.int .i64 t.rt)] h = some (v, h') ∧ SlO h' h.length 1 eZ v t.row ∧ TH V S T l0 a b s h' ∧ h.length ≤ h'.length ∧ ∀ y, y < h.length → y ≠ a → y ≠ b → h'[y]? = h[y]? := by
  intro t
  induction t with
  | nil =>
    intro h A hro hrb hr B h0 hz
    refine ⟨.slice none 0 0, h ++ [Blk.own [(Value.int .i64 V), (Value.int .i64 S), (Value.int .i64 T), ifA a, (Value.int .i64 1), (Value.int .i64 0)]], ?_, SlO.nil _ _ eZ_len, A.app _, by simp, fun y hy _ _ => List.getElem?_append_left hy⟩
    rw [C, call_eq, F20_eq]
    unfold F20
    simp only [rt_0]
    simp only [go_sem, Nat.reduceAdd, Nat.reduceLeDiff, Nat.reduceMul, Int.reduceBEq, Int.reduceBNe, Int.reduceLT, Int.reduceLE, Int.reduceGT]
  | nd l x r ihl ihr =>
    intro h A hro hrb hr B h0 hz
    obtain ⟨la, lb⟩ := A.la
    obtain ⟨b1, b2, b3, b4, b5⟩ := B
    have hx := h0 x (by simp [Tr.row])
    have hx' := nix_small hR hx
    have x0 : (x == 0) = false := by rw [beq_eq_false_iff_ne]; omega
    have h0l : ∀ z ∈ l.row, Nix V S z := fun z hz => h0 z (by simp [Tr.row, hz])
    have h0r : ∀ z ∈ r.row, Nix V S z := fun z hz => h0 z (by simp [Tr.row, hz])
    simp only [Tr.sz] at hz
    have sll := l.row_len
    have slr := r.row_len
    have lh1 : (h ++ [Blk.own [(Value.int .i64 V), (Value.int .i64 S), (Value.int .i64 T), ifA a, (Value.int .i64 1), (Value.int .i64 0)]]).length = h.length + 1 := by simp
    obtain ⟨g1, f1, A1, o1⟩ := tget3 (md := md) hR (A.app [Blk.own [(Value.int .i64 V), (Value.int .i64 S), (Value.int .i64 T), ifA a, (Value.int .i64 1), (Value.int .i64 0)]]) hro hx (by rw [b1]; exact ch_small hR (rt_ch h0l))
    rw [b1] at f1
    have B1 := tvB (V := V) (S := S) (T := T) la lb o1
    have t1 := tv6 B1
    have l1 := o1.len
    obtain ⟨v7, g2, f2, S2, A2, l2, o2⟩ := ihl g1 A1 hro hrb (by omega) b4.body h0l (by omega)
    have B2 : g2[h.length]? = some (.own [(Value.int .i64 V), (Value.int .i64 S), (Value.int .i64 T), ifA a, (Value.int .i64 1), (Value.int .i64 0)]) := (o2 _ (by omega) (by omega) (by omega)).trans B1
    have t2 := tv6 B2
    have B2' : (g2 ++ [Blk.own [(Value.int .i64 x)]])[h.length]? = some (.own [(Value.int .i64 V), (Value.int .i64 S), (Value.int .i64 T), ifA a, (Value.int .i64 1), (Value.int .i64 0)]) := by rw [List.getElem?_append_left (by omega)]; exact B2
    have t2' := tv6 B2'
    obtain ⟨v10, g3, f3, S3, l3, o3⟩ := append_own2 (md := md) (ys := [x]) tInt9 S2 (by omega) l2 (cs := [(Value.int .i64 x)]) (by simp [flat]) (by simp) rfl (by simp; omega)
    simp only [List.length_cons, List.length_nil, Nat.zero_add] at f3
    have k3 : ∀ y, y < g1.length → g3[y]? = g2[y]? := fun y hy => o3 y (by omega) (S2.own.imp id fun q => by omega)
    have A3 := A2.old (k3 a (by omega)) (k3 b (by omega))
    have B3 : g3[h.length]? = some (.own [(Value.int .i64 V), (Value.int .i64 S), (Value.int .i64 T), ifA a, (Value.int .i64 1), (Value.int .i64 0)]) := (k3 _ (by omega)).trans B2
    have t3 := tv6 B3
    obtain ⟨g4, f4, A4, o4⟩ := tget4 (md := md) hR A3 hro hx (by rw [b2]; exact ch_small hR (rt_ch h0r))
    rw [b2] at f4
    have l4 := o4.len
    have B4 : g4[h.length]? = some (.own [(Value.int .i64 V), (Value.int .i64 S), (Value.int .i64 T), ifA a, (Value.int .i64 1), (Value.int .i64 0)]) := (o4.oth _ (by omega) (by omega)).trans B3
    have t4 := tv6 B4
    obtain ⟨v17, g5, f5, S5, A5, l5, o5⟩ := ihr g4 A4 hro hrb (by omega) b5.body h0r (by omega)
    have lt3 := S3.sl.lt (by simp)
    have S3' : SlO g5 h.length 1 eZ v10 (l.row ++ [x]) := SlO.heap2 S3 (fun hb => by rw [o5 _ (by omega) (by omega) (by omega), o4.oth _ (by omega) (by omega)]) (by omega)
    obtain ⟨v19, g6, f6, S6, O6⟩ := append_sl (md := md) tInt9 S3' S5.sl hr (by omega) (fun x => rfl) (by simp; omega)
    have l6 := O6.len
    refine ⟨v19, g6, ?_, by simpa [Tr.row] using S6, A5.old (O6.old _ la) (O6.old _ lb), by omega, fun y hy h1 h2 => ?_⟩
    · rw [C, call_eq, F20_eq]
      unfold F20
      simp only [rt_nd]
      simp only [go_sem, Nat.reduceAdd, Nat.reduceLeDiff, Nat.reduceMul, Int.reduceBEq, Int.reduceBNe, Int.reduceLT, Int.reduceLE, Int.reduceGT, x0, f1, t1, f2, t2, t2', cLE_t, f3, t3, f4, t4, f5, f6]
    · rw [O6.old y hy, o5 y (by omega) h1 h2, o4.oth y h1 h2, k3 y (by omega), o2 y (by omega) h1 h2, o1.oth y h1 h2, List.getElem?_append_left hy]
end Go.Det.E

/- Lists without some, lists that agree, no program in sight. -/
namespace Go.Det.U
variable {α β : Type}
/-- A list without two places. -/
def wo (i k : Nat) : Nat → List α → List α
  | _, [] => []
  | j, x :: xs => if j = i ∨ j = k then wo i k (j + 1) xs else x :: wo i k (j + 1) xs
theorem wo_sub (i k : Nat) : ∀ (l : List α) (j : Nat), (wo i k j l).Sublist l := by
  intro l
  induction l with
  | nil => intro j; exact List.Sublist.refl _
  | cons x l ih =>
    intro j
    unfold wo
    split
    · exact (ih _).cons _
    · exact (ih _).cons_cons _
theorem wo_mem {i k : Nat} {t : α} : ∀ {l : List α} {j : Nat}, t ∈ wo i k j l → ∃ m, l[m]? = some t ∧ j + m ≠ i ∧ j + m ≠ k := by
  intro l
  induction l with
  | nil => intro j h; simp [wo] at h
  | cons x l ih =>
    intro j h
    unfold wo at h
    split at h
    · obtain ⟨m, h1, h2, h3⟩ := ih h
      exact ⟨m + 1, by simpa using h1, by omega, by omega⟩
    · rename_i hj
      rcases List.mem_cons.1 h with rfl | h
      · exact ⟨0, rfl, by omega, by omega⟩
      · obtain ⟨m, h1, h2, h3⟩ := ih h
        exact ⟨m + 1, by simpa using h1, by omega, by omega⟩
theorem mem_wo {i k : Nat} {t : α} : ∀ {l : List α} {j m : Nat}, l[m]? = some t → j + m ≠ i → j + m ≠ k → t ∈ wo i k j l := by
  intro l
  induction l with
  | nil => intro j m h; simp at h
  | cons x l ih =>
    intro j m h h1 h2
    unfold wo
    cases m with
    | zero =>
      rw [if_neg (by omega)]
      simp at h; simp [h]
    | succ m =>
      have := ih (j := j + 1) (m := m) (by simpa using h) (by omega) (by omega)
      split
      · exact this
      · exact List.mem_cons_of_mem _ this
def F2 (Q : α → β → Prop) : List α → List β → Prop
  | [], [] => True
  | x :: xs, y :: ys => Q x y ∧ F2 Q xs ys
  | _, _ => False
theorem F2.len {Q : α → β → Prop} : ∀ {xs : List α} {ys : List β}, F2 Q xs ys → xs.length = ys.length := by
  intro xs
  induction xs with
  | nil => intro ys h; cases ys with | nil => rfl | cons y ys => exact h.elim
  | cons x xs ih => intro ys h; cases ys with | nil => exact h.elim | cons y ys => simp [ih h.2]
theorem F2.get {Q : α → β → Prop} : ∀ {xs : List α} {ys : List β}, F2 Q xs ys → ∀ (i : Nat) (x : α) (y : β), xs[i]? = some x → ys[i]? = some y → Q x y := by
  intro xs
  induction xs with
  | nil => intro ys h i x y h1; simp at h1
  | cons x xs ih =>
    intro ys h i a b h1 h2
    cases ys with
    | nil => exact h.elim
    | cons y ys =>
      cases i with
      | zero => simp at h1 h2; exact h1 ▸ h2 ▸ h.1
      | succ i => exact ih h.2 i a b (by simpa using h1) (by simpa using h2)
theorem F2.mk {Q : α → β → Prop} : ∀ {xs : List α} {ys : List β}, xs.length = ys.length → (∀ (i : Nat) (x : α) (y : β), xs[i]? = some x → ys[i]? = some y → Q x y) → F2 Q xs ys := by
  intro xs
  induction xs with
  | nil => intro ys h _; cases ys with | nil => trivial | cons y ys => simp at h
  | cons x xs ih =>
    intro ys h g
    cases ys with
    | nil => simp at h
    | cons y ys => exact ⟨g 0 x y rfl rfl, ih (by simpa using h) fun i a b h1 h2 => g (i + 1) a b (by simpa using h1) (by simpa using h2)⟩
theorem F2.wo {Q : α → β → Prop} (i k : Nat) : ∀ {xs : List α} {ys : List β} (j : Nat), F2 Q xs ys → F2 Q (wo i k j xs) (wo i k j ys) := by
  intro xs
  induction xs with
  | nil => intro ys j h; cases ys with | nil => trivial | cons y ys => exact h.elim
  | cons x xs ih =>
    intro ys j h
    cases ys with
    | nil => exact h.elim
    | cons y ys =>
      unfold U.wo
      split
      · exact ih _ h.2
      · exact ⟨h.1, ih _ h.2⟩
theorem F2.app {Q : α → β → Prop} : ∀ {xs xs' : List α} {ys ys' : List β}, F2 Q xs ys → F2 Q xs' ys' → F2 Q (xs ++ xs') (ys ++ ys') := by
  intro xs
  induction xs with
  | nil => intro xs' ys ys' h h'; cases ys with | nil => exact h' | cons y ys => exact h.elim
  | cons x xs ih => intro xs' ys ys' h h'; cases ys with | nil => exact h.elim | cons y ys => exact ⟨h.1, ih h.2 h'⟩
end Go.Det.U
namespace Go.Det.E
open Go.Proofs Go.Det Go.Det.U
variable {h hh k : Heap}
theorem Sl.sliceV {ε : Type} {enc : ε → List Value} {sz : Nat} {v : Value} {xs : List ε} (S : Sl h sz enc v xs) : ∃ a l c, v = .slice a l c := by
  rcases S.is with ⟨rfl, _⟩ | ⟨b, o, kk, rfl, _⟩
  · exact ⟨_, _, _, rfl⟩
  · exact ⟨_, _, _, rfl⟩
end Go.Det.E

/- Rows in memory: each as the one tree that it has; what the treap's calls do with rows. -/
namespace Go.Det.U
abbrev one1 (y : Int) : Tr := .nd .nil y .nil
/-- The tree of a row. -/
def treeOf (pr : Int → Int) : List Int → Tr
  | [] => .nil
  | x :: xs => mergeT pr (one1 x) (treeOf pr xs)
theorem tree_row (pr : Int → Int) (r : List Int) : (treeOf pr r).row = r := by
  induction r with
  | nil => rfl
  | cons x xs ih => rw [treeOf, merge_row _ _ _ (Nat.le_refl _), ih]; rfl
theorem tree_sz (pr : Int → Int) (r : List Int) : (treeOf pr r).sz = r.length := by rw [← Tr.row_len, tree_row]
theorem tree_hp (pr : Int → Int) {r : List Int} (hn : r.Nodup) : (treeOf pr r).hp pr := by
  induction r with
  | nil => trivial
  | cons x xs ih =>
    rw [treeOf]
    refine merge_hp _ _ _ (Nat.le_refl _) ⟨fun y hy => by simp [Tr.row] at hy, fun y hy => by simp [Tr.row] at hy, trivial, trivial⟩ (ih (List.nodup_cons.1 hn).2) ?_
    rw [tree_row]; exact hn
theorem tree_of {pr : Int → Int} {t : Tr} (h : t.hp pr) (hn : t.row.Nodup) : t = treeOf pr t.row :=
  hp_uniq h (tree_hp pr hn) (tree_row pr _).symm hn
def RT (pr : Int → Int) (r : List Int) : Int := (treeOf pr r).rt
theorem RT_one (pr : Int → Int) (x : Int) : RT pr [x] = x := by
  have e : one1 x = treeOf pr [x] := tree_of (t := one1 x) ⟨fun y hy => by simp [Tr.row] at hy, fun y hy => by simp [Tr.row] at hy, trivial, trivial⟩ (by simp [Tr.row])
  unfold RT
  rw [← e]; rfl
end Go.Det.U
namespace Go.Det.E
open Go.Proofs Go.Det Go.Det.U
attribute [local congr] bind_c cond_c
variable {h hh k : Heap} {a b n : Nat} {V S T x v p f : Int} {l0 : Int → Int} {s s' : NS} {r A B : List Int}
def mkN : Int → Nat := fun _ => 0
theorem mkN_lt (y : Int) : mkN y < 4 := by show 0 < 4; omega
/-- A row is in memory as its tree. -/
def HR (V : Int) (pr : Int → Int) (s : NS) (r : List Int) : Prop := IsT mkN (vxB V) s (treeOf pr r) 0
theorem HR.same {pr : Int → Int} (H : HR V pr s r) (so : SameOn r s s') : HR V pr s' r := IsT.congr (by rw [tree_row]; exact so) H
theorem HR.nil (pr : Int → Int) : HR V pr s [] := trivial
theorem RT_mem (pr : Int → Int) {r : List Int} (h : r ≠ []) : RT pr r ∈ r := by
  have hr := tree_row pr r
  cases ht : treeOf pr r with
  | nil => rw [ht] at hr; exact absurd hr.symm h
  | nd l x u =>
    unfold RT
    rw [ht] at hr ⊢
    rw [← hr]
    show x ∈ l.row ++ x :: u.row
    simp
theorem pig10 : ∀ (N : Nat) (l : List Nat), l.Nodup → (∀ n ∈ l, 1 ≤ n ∧ n ≤ N) → l.length ≤ N := by
  intro N
  induction N with
  | zero =>
    intro l hn h
    cases l with
    | nil => simp
    | cons x l => have := h x (by simp); omega
  | succ N ih =>
    intro l hn h
    by_cases hm : N + 1 ∈ l
    · have e := ih (l.erase (N + 1)) (hn.erase _) fun n hn2 => by
        have := h n (List.mem_of_mem_erase hn2)
        have := (hn.mem_erase_iff.1 hn2).1
        omega
      rw [List.length_erase_of_mem hm] at e
      omega
    · have := ih l hn fun n hn2 => by
        have := h n hn2
        have : n ≠ N + 1 := fun e => hm (e ▸ hn2)
        omega
      omega
theorem len_sm {N : Nat} (hv : ∀ y : Int, Nix V S y → y ≤ N) : ∀ (l : List Int), l.Nodup → (∀ y ∈ l, Nix V S y) → l.length ≤ N := by
  intro l hn h0
  have h1 : (l.map Int.toNat).Nodup := by
    rw [List.Nodup, List.pairwise_map]
    refine List.Pairwise.imp_of_mem ?_ hn
    intro x y hx hy hne e
    have := h0 x hx
    have := h0 y hy
    exact hne (by omega)
  have h2 : ∀ n ∈ l.map Int.toNat, n ∈ List.range' 1 N := by
    intro n hn
    obtain ⟨y, hy, rfl⟩ := List.mem_map.1 hn
    have := h0 y hy
    have := hv y this
    rw [List.mem_range'_1]; omega
  have := pig10 N _ h1 fun n hn => by have := h2 n hn; rw [List.mem_range'_1] at this; omega
  simpa using this
theorem small_row (hR : Rt V S T) (hn : r.Nodup) (h0 : ∀ y ∈ r, Nix V S y) : r.length < 20000 := by
  have cn := Cn_le hR
  have := len_sm (V := V) (S := S) (N := (Nn V S).toNat) (fun y hy => by have := hy.2; omega) r hn h0
  omega
theorem rMerge (hR : Rt V S T) (H : TH V S T l0 a b s h) (HA : HR V (prO V S T l0) s A) (HB : HR V (prO V S T l0) s B) (hn : (A ++ B).Nodup) (h0 : ∀ y ∈ A ++ B, Nix V S y) :
    ∃ s' h', C ⟨0, n⟩ 29 [(Value.agg #[(Value.int .i64 V), (Value.int .i64 S), (Value.int .i64 T), ifA a, (Value.int .i64 1), (Value.int .i64 0)]), (Value.int .i64 (RT (prO V S T l0) A)), (Value.int .i64 (RT (prO V S T l0) B))] h = some ((Value.int .i64 (RT (prO V S T l0) (A ++ B))), h') ∧ TH V S T l0 a b s' h' ∧ Only a b h h' ∧ HR V (prO V S T l0) s' (A ++ B) ∧ SameOut (A ++ B) s s' := by
  have sm := small_row hR hn h0
  rw [List.length_append] at sm
  have ra := tree_row (prO V S T l0) A
  have rb := tree_row (prO V S T l0) B
  obtain ⟨nA, nB, _⟩ := List.nodup_append.1 hn
  obtain ⟨s', h', e, A', o, I, so⟩ := tMerge (md := ⟨0, n⟩) (A := treeOf (prO V S T l0) A) (B := treeOf (prO V S T l0) B) hR mkN_lt H (Nat.zero_le _) (Nat.zero_le _) (Nat.zero_le _) HA HB (by rw [ra, rb]; exact hn) (by rw [ra, rb]; exact h0) (by rw [tree_sz, tree_sz]; omega)
  have hm := merge_hp (pr := prO V S T l0) _ (treeOf (prO V S T l0) A) (treeOf (prO V S T l0) B) (Nat.le_refl _) (tree_hp _ nA) (tree_hp _ nB) (by rw [ra, rb]; exact hn)
  have hr := merge_row (pr := prO V S T l0) _ (treeOf (prO V S T l0) A) (treeOf (prO V S T l0) B) (Nat.le_refl _)
  rw [ra, rb] at hr so
  have e2 := tree_of hm (by rw [hr]; exact hn)
  rw [hr] at e2
  rw [e2] at e I
  exact ⟨s', h', e, A', o, I, so⟩
theorem rSplit (hR : Rt V S T) (H : TH V S T l0 a b s h) (HA : HR V (prO V S T l0) s r) (hn : r.Nodup) (h0 : ∀ y ∈ r, Nix V S y) (k : Nat) (hk : k ≤ r.length) :
    ∃ s' h', C ⟨0, n⟩ 28 [(Value.agg #[(Value.int .i64 V), (Value.int .i64 S), (Value.int .i64 T), ifA a, (Value.int .i64 1), (Value.int .i64 0)]), (Value.int .i64 (RT (prO V S T l0) r)), (Value.int .i64 ((k : Int)))] h = some ((Value.tuple #[(Value.int .i64 (RT (prO V S T l0) (r.take k))), (Value.int .i64 (RT (prO V S T l0) (r.drop k)))]), h') ∧ TH V S T l0 a b s' h' ∧ Only a b h h' ∧ HR V (prO V S T l0) s' (r.take k) ∧ HR V (prO V S T l0) s' (r.drop k) ∧ SameOut r s s' := by
  have sm := small_row hR hn h0
  have rr := tree_row (prO V S T l0) r
  obtain ⟨s', h', e, A', o, I1, I2, so⟩ := tSplit (md := ⟨0, n⟩) (t := treeOf (prO V S T l0) r) hR mkN_lt H (Nat.zero_le _) (Nat.zero_le _) (Nat.zero_le _) HA (by rw [rr]; exact hn) (by rw [rr]; exact h0) (by rw [tree_sz]; omega) (k : Int)
  have hc : clampN (k : Int) (treeOf (prO V S T l0) r).sz = k := by unfold clampN; rw [tree_sz]; omega
  rw [hc] at e I1 I2
  obtain ⟨p1, p2⟩ := split_hp (pr := prO V S T l0) (treeOf (prO V S T l0) r) k (tree_hp _ hn)
  obtain ⟨q1, q2⟩ := split_row (treeOf (prO V S T l0) r) k
  rw [rr] at q1 q2 so
  have e1 := tree_of p1 (by rw [q1]; exact hn.sublist (List.take_sublist _ _))
  have e2 := tree_of p2 (by rw [q2]; exact hn.sublist (List.drop_sublist _ _))
  rw [q1] at e1
  rw [q2] at e2
  rw [e1, e2] at e
  rw [e1] at I1
  rw [e2] at I2
  exact ⟨s', h', e, A', o, I1, I2, so⟩
theorem rRoot (hR : Rt V S T) (H : TH V S T l0 a b s h) (HA : HR V (prO V S T l0) s r) (h0 : ∀ y ∈ r, Nix V S y) (hx : x ∈ r) :
    ∃ h', C ⟨0, n⟩ 21 [(Value.agg #[(Value.int .i64 V), (Value.int .i64 S), (Value.int .i64 T), ifA a, (Value.int .i64 1), (Value.int .i64 0)]), (Value.int .i64 x)] h = some ((Value.int .i64 (RT (prO V S T l0) r)), h') ∧ TH V S T l0 a b s h' ∧ Only a b h h' := by
  have rr := tree_row (prO V S T l0) r
  exact tRoot (md := ⟨0, n⟩) (t := treeOf (prO V S T l0) r) hR H (Nat.zero_le _) (Nat.zero_le _) HA (by rw [rr]; exact h0) (by rw [rr]; exact hx)
theorem rIndex (hR : Rt V S T) (H : TH V S T l0 a b s h) (HA : HR V (prO V S T l0) s r) (hn : r.Nodup) (h0 : ∀ y ∈ r, Nix V S y) {i : Nat} (hi : r[i]? = some x) :
    ∃ h', C ⟨0, n⟩ 22 [(Value.agg #[(Value.int .i64 V), (Value.int .i64 S), (Value.int .i64 T), ifA a, (Value.int .i64 1), (Value.int .i64 0)]), (Value.int .i64 x)] h = some ((Value.int .i64 ((i : Int))), h') ∧ TH V S T l0 a b s h' ∧ Only a b h h' := by
  have rr := tree_row (prO V S T l0) r
  have sm := small_row hR hn h0
  obtain ⟨j, h', e, e2, z⟩ := tIndex (md := ⟨0, n⟩) (t := treeOf (prO V S T l0) r) hR mkN_lt H (Nat.zero_le _) (Nat.zero_le _) HA (by rw [rr]; exact hn) (by rw [rr]; exact h0) (by rw [tree_sz]; omega) (by rw [rr]; exact List.mem_of_getElem? hi)
  rw [rr] at e
  obtain rfl : i = j := (List.getElem?_inj (List.getElem?_eq_some_iff.1 hi).1 hn).1 (hi.trans e.symm)
  exact ⟨h', e2, z⟩
theorem rList (hR : Rt V S T) (H : TH V S T l0 a b s h) (HA : HR V (prO V S T l0) s r) (hn : r.Nodup) (h0 : ∀ y ∈ r, Nix V S y) :
    ∃ v h', C ⟨0, n⟩ 20 [(Value.agg #[(Value.int .i64 V), (Value.int .i64 S), (Value.int .i64 T), ifA a, (Value.int .i64 1), (Value.int .i64 0)]), (Value.int .i64 (RT (prO V S T l0) r))] h = some (v, h') ∧ SlO h' h.length 1 eZ v r ∧ TH V S T l0 a b s h' ∧ h.length ≤ h'.length ∧ ∀ y, y < h.length → y ≠ a → y ≠ b → h'[y]? = h[y]? := by
  have rr := tree_row (prO V S T l0) r
  have sm := small_row hR hn h0
  have := tList (md := ⟨0, n⟩) hR (treeOf (prO V S T l0) r) h H (Nat.zero_le _) (Nat.zero_le _) (Nat.zero_le _) (mk := mkN) (IsT.body HA) (by rw [rr]; exact h0) (by rw [tree_sz]; omega)
  rw [rr] at this
  exact this
theorem rVerts (hR : Rt V S T) (H : TH V S T l0 a b s h) (HA : HR V (prO V S T l0) s r) (hn : r.Nodup) (h0 : ∀ y ∈ r, Nix V S y) :
    ∃ h', C ⟨0, n⟩ 24 [(Value.agg #[(Value.int .i64 V), (Value.int .i64 S), (Value.int .i64 T), ifA a, (Value.int .i64 1), (Value.int .i64 0)]), (Value.int .i64 (RT (prO V S T l0) r))] h = some ((Value.int .i64 (((r.filter (vxB V)).length : Int))), h') ∧ TH V S T l0 a b s h' ∧ Only a b h h' := by
  have rr := tree_row (prO V S T l0) r
  have sm := small_row hR hn h0
  obtain ⟨ot, kt, st⟩ := smok_tr (vx := vxB V) mkN_lt (treeOf (prO V S T l0) r) (by rw [tree_sz]; omega)
  have := tverts (md := ⟨0, n⟩) (x := RT (prO V S T l0) r) hR H (Nat.zero_le _) (rt_ch (t := treeOf (prO V S T l0) r) (by rw [rr]; exact h0)) kt ((sum_of (IsT.body HA) (by rw [rr]; exact fun y hy => (h0 y hy).1)).trans st)
  rw [nv_row, rr] at this
  exact this
theorem rAlone (hR : Rt V S T) (H : TH V S T l0 a b s h) (hx : Nix V S x) :
    ∃ s' h', C ⟨0, n⟩ 56 [(Value.agg #[(Value.int .i64 V), (Value.int .i64 S), (Value.int .i64 T), ifA a, (Value.int .i64 1), (Value.int .i64 0)]), (Value.int .i64 x)] h = some ((Value.tuple #[]), h') ∧ TH V S T l0 a b s' h' ∧ Only a b h h' ∧ HR V (prO V S T l0) s' [x] ∧ SameOut [x] s s' := by
  obtain ⟨h', e, A', o⟩ := tAlone (md := ⟨0, n⟩) hR H (Nat.zero_le _) (Nat.zero_le _) (Nat.zero_le _) hx
  refine ⟨aloneS V s x, h', e, A', o, ?_, fun y hy => ?_⟩
  · have et : one1 x = treeOf (prO V S T l0) [x] := tree_of (t := one1 x) ⟨fun y hy => by simp [Tr.row] at hy, fun y hy => by simp [Tr.row] at hy, trivial, trivial⟩ (by simp [Tr.row])
    unfold HR
    rw [← et]
    refine ⟨upI_same _ _ _, upI_same _ _ _, upI_same _ _ _, (upI_same _ _ _).trans ?_, trivial, trivial⟩
    show _ = SM (0 + 0 + 1) (0 + 0 + (bif vxB V x then 1 else 0)) 0 ((0 ||| 0) ||| 0)
    rw [Nat.zero_add, Nat.zero_add]
    rfl
  · have h : y ≠ x := by simpa using hy
    exact ⟨upI_else h, upI_else h, upI_else h, upI_else h⟩
end Go.Det.E

/- Tours: begin, same, count, arcs, link, linked, cut, on rows. -/
namespace Go.Det.E
open Go.Proofs Go.Det Go.Det.U
attribute [local congr] bind_c cond_c
variable {h hh k : Heap} {a b n : Nat} {V S T x y v p f lv u w sl : Int} {l0 : Int → Int} {s s' : NS} {r A B : List Int}
/-- A row that begins at a place. -/
def rotR (r : List Int) (i : Nat) : List Int := r.drop i ++ r.take i
theorem rot_mem {i : Nat} : x ∈ rotR r i ↔ x ∈ r := by
  unfold rotR
  constructor
  · intro h
    rcases List.mem_append.1 h with q | q
    · exact List.mem_of_mem_drop q
    · exact List.mem_of_mem_take q
  · intro h
    rw [← List.take_append_drop i r] at h
    rcases List.mem_append.1 h with q | q
    · exact List.mem_append.2 (.inr q)
    · exact List.mem_append.2 (.inl q)
theorem rot_nodup {i : Nat} (hn : r.Nodup) : (rotR r i).Nodup := by
  have h := hn
  rw [← List.take_append_drop i r] at h
  obtain ⟨a1, a2, a3⟩ := List.nodup_append.1 h
  exact List.nodup_append.2 ⟨a2, a1, fun x hx y hy e => a3 y hy x hx e.symm⟩
theorem rBegin (hR : Rt V S T) (H : TH V S T l0 a b s h) (HA : HR V (prO V S T l0) s r) (hn : r.Nodup) (h0 : ∀ y ∈ r, Nix V S y) {i : Nat} (hi : r[i]? = some (Vx V lv u)) :
    ∃ s' h', C ⟨0, n⟩ 45 [(Value.agg #[(Value.int .i64 V), (Value.int .i64 S), (Value.int .i64 T), ifA a, (Value.int .i64 1), (Value.int .i64 0)]), (Value.int .i64 lv), (Value.int .i64 u)] h = some ((Value.int .i64 (RT (prO V S T l0) (rotR r i))), h') ∧ TH V S T l0 a b s' h' ∧ Only a b h h' ∧ HR V (prO V S T l0) s' (rotR r i) ∧ SameOut r s s' := by
  obtain ⟨la, lb⟩ := H.la
  have b0 := tvB (V := V) (S := S) (T := T) la lb Only.refl
  have t0 := tv6 b0
  have t03 := tv3 b0
  have hx := List.mem_of_getElem? hi
  have vs := fun (m : Md) (h : Heap) => vertex_s m h (a := lv) (b := u) hR
  obtain ⟨g1, f1, A1, o1⟩ := rRoot (n := h.length) hR (H.app [Blk.own [(Value.int .i64 V), (Value.int .i64 S), (Value.int .i64 T), ifA a, (Value.int .i64 1), (Value.int .i64 0)]]) HA h0 hx
  have t1 := tv6 (tvB (V := V) (S := S) (T := T) la lb o1)
  obtain ⟨g2, f2, A2, o2'⟩ := rIndex (n := h.length) hR A1 HA hn h0 hi
  have o2 := o1.trans o2'
  have t2 := tv6 (tvB (V := V) (S := S) (T := T) la lb o2)
  have hil := (List.getElem?_eq_some_iff.1 hi).1
  obtain ⟨s3, g3, f3, A3, o3', I1, I2, so3⟩ := rSplit (n := h.length) hR A2 HA hn h0 i (by omega)
  have o3 := o2.trans o3'
  have t3 := tv6 (tvB (V := V) (S := S) (T := T) la lb o3)
  have rn : (r.drop i ++ r.take i).Nodup := rot_nodup hn
  obtain ⟨s4, g4, f4, A4, o4', I4, so4⟩ := rMerge (n := h.length) hR A3 I2 I1 rn (fun y hy => h0 y (rot_mem.1 hy))
  have o4 := o3.trans o4'
  refine ⟨s4, g4.take h.length, ?_, A4.take la lb, o4.take, I4, so3.trans (so4.mono fun y hy => rot_mem.1 hy)⟩
  rw [C, call_eq, F45_eq]
  unfold F45
  simp only [go_sem, Nat.reduceAdd, Nat.reduceLeDiff, Nat.reduceMul, Int.reduceBEq, Int.reduceBNe, Int.reduceLT, Int.reduceLE, Int.reduceGT, t03, t0, vs, f1, t1, f2, t2, cLE_t, f3, t3, f4]
  rfl
theorem rSame {r1 r2 : List Int} (hR : Rt V S T) (H : TH V S T l0 a b s h) (H1 : HR V (prO V S T l0) s r1) (H2 : HR V (prO V S T l0) s r2) (h1 : ∀ y ∈ r1, Nix V S y) (h2 : ∀ y ∈ r2, Nix V S y) (hx : Vx V lv u ∈ r1) (hy : Vx V lv w ∈ r2) :
    ∃ h', C ⟨0, n⟩ 38 [(Value.agg #[(Value.int .i64 V), (Value.int .i64 S), (Value.int .i64 T), ifA a, (Value.int .i64 1), (Value.int .i64 0)]), (Value.int .i64 lv), (Value.int .i64 u), (Value.int .i64 w)] h = some ((Value.bool (RT (prO V S T l0) r1 == RT (prO V S T l0) r2)), h') ∧ TH V S T l0 a b s h' ∧ Only a b h h' := by
  obtain ⟨la, lb⟩ := H.la
  have b0 := tvB (V := V) (S := S) (T := T) la lb Only.refl
  have t0 := tv6 b0
  have t03 := tv3 b0
  have vs := fun (m : Md) (h : Heap) => vertex_s m h (a := lv) (b := u) hR
  have vw := fun (m : Md) (h : Heap) => vertex_s m h (a := lv) (b := w) hR
  obtain ⟨g1, f1, A1, o1⟩ := rRoot (n := h.length) hR (H.app [Blk.own [(Value.int .i64 V), (Value.int .i64 S), (Value.int .i64 T), ifA a, (Value.int .i64 1), (Value.int .i64 0)]]) H1 h1 hx
  have b1 := tvB (V := V) (S := S) (T := T) la lb o1
  have t1 := tv6 b1
  have t13 := tv3 b1
  obtain ⟨g2, f2, A2, o2'⟩ := rRoot (n := h.length) hR A1 H2 h2 hy
  refine ⟨g2.take h.length, ?_, A2.take la lb, (o1.trans o2').take⟩
  rw [C, call_eq, F38_eq]
  unfold F38
  simp only [go_sem, Nat.reduceAdd, Nat.reduceLeDiff, Nat.reduceMul, Int.reduceBEq, Int.reduceBNe, Int.reduceLT, Int.reduceLE, Int.reduceGT, t0, t03, vs, f1, t1, t13, cLE_t, vw, f2]
theorem rCount (hR : Rt V S T) (H : TH V S T l0 a b s h) (HA : HR V (prO V S T l0) s r) (hn : r.Nodup) (h0 : ∀ y ∈ r, Nix V S y) (hx : Vx V lv u ∈ r) :
    ∃ h', C ⟨0, n⟩ 39 [(Value.agg #[(Value.int .i64 V), (Value.int .i64 S), (Value.int .i64 T), ifA a, (Value.int .i64 1), (Value.int .i64 0)]), (Value.int .i64 lv), (Value.int .i64 u)] h = some ((Value.int .i64 (((r.filter (vxB V)).length : Int))), h') ∧ TH V S T l0 a b s h' ∧ Only a b h h' := by
  obtain ⟨la, lb⟩ := H.la
  have b0 := tvB (V := V) (S := S) (T := T) la lb Only.refl
  have t0 := tv6 b0
  have t03 := tv3 b0
  have vs := fun (m : Md) (h : Heap) => vertex_s m h (a := lv) (b := u) hR
  obtain ⟨g1, f1, A1, o1⟩ := rRoot (n := h.length) hR (H.app [Blk.own [(Value.int .i64 V), (Value.int .i64 S), (Value.int .i64 T), ifA a, (Value.int .i64 1), (Value.int .i64 0)]]) HA h0 hx
  have t1 := tv6 (tvB (V := V) (S := S) (T := T) la lb o1)
  obtain ⟨g2, f2, A2, o2'⟩ := rVerts (n := h.length) hR A1 HA hn h0
  refine ⟨g2.take h.length, ?_, A2.take la lb, (o1.trans o2').take⟩
  rw [C, call_eq, F39_eq]
  unfold F39
  simp only [go_sem, Nat.reduceAdd, Nat.reduceLeDiff, Nat.reduceMul, Int.reduceBEq, Int.reduceBNe, Int.reduceLT, Int.reduceLE, Int.reduceGT, t0, t03, vs, f1, t1, cLE_t, f2]
theorem arcs_t (hR : Rt V S T) (m : Md) (h : Heap) : C m 75 [(Value.agg #[(Value.int .i64 V), (Value.int .i64 S), (Value.int .i64 T), ifA a, (Value.int .i64 1), (Value.int .i64 0)]), (Value.int .i64 lv), (Value.int .i64 sl)] h = some ((Value.tuple #[(Value.int .i64 (Ax V S sl lv 0)), (Value.int .i64 (Ax V S sl lv 1))]), h) := by
  have t03 : rdN (h ++ [Blk.own [(Value.int .i64 V), (Value.int .i64 S), (Value.int .i64 T), ifA a, (Value.int .i64 1), (Value.int .i64 0)]]) h.length 0 3 = some [(Value.int .i64 V), (Value.int .i64 S), (Value.int .i64 T)] := tv3 (List.getElem?_concat_length ..)
  have a0 := fun (m : Md) (h : Heap) => arc_s m h (a := sl) (b := lv) (c := 0) hR
  have a1 := fun (m : Md) (h : Heap) => arc_s m h (a := sl) (b := lv) (c := 1) hR
  rw [C, call_eq, F75_eq]
  unfold F75
  simp only [go_sem, Nat.reduceAdd, Nat.reduceLeDiff, Nat.reduceMul, Int.reduceBEq, Int.reduceBNe, Int.reduceLT, Int.reduceLE, Int.reduceGT, t03, a0, a1]
theorem rLinked {r1 r2 : List Int} (hR : Rt V S T) (H : TH V S T l0 a b s h) (H1 : HR V (prO V S T l0) s r1) (H2 : HR V (prO V S T l0) s r2) (h1 : ∀ y ∈ r1, Nix V S y) (h2 : ∀ y ∈ r2, Nix V S y) (hx : Ax V S sl lv 0 ∈ r1) (hy : Ax V S sl lv 1 ∈ r2) :
    ∃ h', C ⟨0, n⟩ 36 [(Value.agg #[(Value.int .i64 V), (Value.int .i64 S), (Value.int .i64 T), ifA a, (Value.int .i64 1), (Value.int .i64 0)]), (Value.int .i64 lv), (Value.int .i64 sl)] h = some ((Value.bool (RT (prO V S T l0) r1 == RT (prO V S T l0) r2)), h') ∧ TH V S T l0 a b s h' ∧ Only a b h h' := by
  obtain ⟨la, lb⟩ := H.la
  have b0 := tvB (V := V) (S := S) (T := T) la lb Only.refl
  have t0 := tv6 b0
  have ar := fun (m : Md) (h : Heap) => arcs_t (a := a) (lv := lv) (sl := sl) hR m h
  obtain ⟨g1, f1, A1, o1⟩ := rRoot (n := h.length) hR (H.app [Blk.own [(Value.int .i64 V), (Value.int .i64 S), (Value.int .i64 T), ifA a, (Value.int .i64 1), (Value.int .i64 0)]]) H1 h1 hx
  have t1 := tv6 (tvB (V := V) (S := S) (T := T) la lb o1)
  obtain ⟨g2, f2, A2, o2'⟩ := rRoot (n := h.length) hR A1 H2 h2 hy
  refine ⟨g2.take h.length, ?_, A2.take la lb, (o1.trans o2').take⟩
  rw [C, call_eq, F36_eq]
  unfold F36
  simp only [go_sem, Nat.reduceAdd, Nat.reduceLeDiff, Nat.reduceMul, Int.reduceBEq, Int.reduceBNe, Int.reduceLT, Int.reduceLE, Int.reduceGT, t0, ar, f1, t1, cLE_t, f2]
/-- What a link makes of two rows. -/
def linkR (A B : List Int) (i j : Nat) (t k : Int) : List Int := ((rotR A i ++ [t]) ++ rotR B j) ++ [k]
theorem rLink {i j : Nat} (hR : Rt V S T) (H : TH V S T l0 a b s h) (HA : HR V (prO V S T l0) s A) (HB : HR V (prO V S T l0) s B) (Ht : HR V (prO V S T l0) s [Ax V S sl lv 0]) (Hk : HR V (prO V S T l0) s [Ax V S sl lv 1]) (hn : (((A ++ [Ax V S sl lv 0]) ++ B) ++ [Ax V S sl lv 1]).Nodup) (h0 : ∀ y ∈ ((A ++ [Ax V S sl lv 0]) ++ B) ++ [Ax V S sl lv 1], Nix V S y) (hi : A[i]? = some (Vx V lv u)) (hj : B[j]? = some (Vx V lv w)) :
    ∃ s' h', C ⟨0, n⟩ 46 [(Value.agg #[(Value.int .i64 V), (Value.int .i64 S), (Value.int .i64 T), ifA a, (Value.int .i64 1), (Value.int .i64 0)]), (Value.int .i64 lv), (Value.int .i64 sl), (Value.int .i64 u), (Value.int .i64 w)] h = some ((Value.int .i64 (RT (prO V S T l0) (linkR A B i j (Ax V S sl lv 0) (Ax V S sl lv 1)))), h') ∧ TH V S T l0 a b s' h' ∧ Only a b h h' ∧ HR V (prO V S T l0) s' (linkR A B i j (Ax V S sl lv 0) (Ax V S sl lv 1)) ∧ SameOut (((A ++ [Ax V S sl lv 0]) ++ B) ++ [Ax V S sl lv 1]) s s' := by
  obtain ⟨la, lb⟩ := H.la
  have b0 := tvB (V := V) (S := S) (T := T) la lb Only.refl
  have t0 := tv6 b0
  have ar := fun (m : Md) (h : Heap) => arcs_t (a := a) (lv := lv) (sl := sl) hR m h
  generalize Ax V S sl lv 0 = t at *
  generalize Ax V S sl lv 1 = kk at *
  obtain ⟨n1, n2, n3⟩ := List.nodup_append.1 hn
  obtain ⟨n4, nB, n6⟩ := List.nodup_append.1 n1
  obtain ⟨nA, n8, n9⟩ := List.nodup_append.1 n4
  have dBA : ∀ y ∈ B, y ∉ A := fun y hy q => n6 y (List.mem_append.2 (.inl q)) y hy rfl
  have dBt : t ∉ B := fun q => n6 t (by simp) t q rfl
  have dAt : t ∉ A := fun q => n9 t q t (by simp) rfl
  have dk : kk ∉ (A ++ [t]) ++ B := fun q => n3 kk q kk (by simp) rfl
  have dkA : kk ∉ A := fun q => dk (by simp [q])
  have dkB : kk ∉ B := fun q => dk (by simp [q])
  have dkt : kk ≠ t := fun q => dk (by simp [q])
  have hA0 : ∀ y ∈ A, Nix V S y := fun y hy => h0 y (by simp [hy])
  have hB0 : ∀ y ∈ B, Nix V S y := fun y hy => h0 y (by simp [hy])
  obtain ⟨s1, g1, f1, A1, o1, I1, so1⟩ := rBegin (n := h.length) (lv := lv) (u := u) hR (H.app [Blk.own [(Value.int .i64 V), (Value.int .i64 S), (Value.int .i64 T), ifA a, (Value.int .i64 1), (Value.int .i64 0)]]) HA nA hA0 hi
  have t1 := tv6 (tvB (V := V) (S := S) (T := T) la lb o1)
  have m1 : (rotR A i ++ [t]).Nodup := List.nodup_append.2 ⟨rot_nodup nA, by simp, fun y hy z hz e => by simp at hz; subst hz; subst e; exact dAt (rot_mem.1 hy)⟩
  have q1 : ∀ y ∈ rotR A i ++ [t], y ∈ (A ++ [t]) := fun y hy => by
    rcases List.mem_append.1 hy with q | q
    · exact List.mem_append.2 (.inl (rot_mem.1 q))
    · exact List.mem_append.2 (.inr q)
  obtain ⟨s2, g2, f2, A2, o2', I2, so2⟩ := rMerge (n := h.length) hR A1 I1 (HR.same Ht (so1.on fun y hy => by simp at hy; subst hy; exact dAt)) m1 (fun y hy => h0 y (by have := q1 y hy; simp only [List.mem_append] at *; exact .inl (.inl this)))
  have o2 := o1.trans o2'
  have t2 := tv6 (tvB (V := V) (S := S) (T := T) la lb o2)
  have soA : SameOut (A ++ [t]) s s2 := (so1.mono fun y hy => by simp [hy]).trans (so2.mono q1)
  have dBs : ∀ y ∈ B, y ∉ A ++ [t] := fun y hy q => n6 y q y hy rfl
  obtain ⟨s3, g3, f3, A3, o3', I3, so3⟩ := rBegin (n := h.length) (lv := lv) (u := w) hR A2 (HR.same HB (soA.on dBs)) nB hB0 hj
  have o3 := o2.trans o3'
  have t3 := tv6 (tvB (V := V) (S := S) (T := T) la lb o3)
  have m3 : ((rotR A i ++ [t]) ++ rotR B j).Nodup := List.nodup_append.2 ⟨m1, rot_nodup nB, fun y hy z hz e => n6 y (q1 y hy) z (rot_mem.1 hz) e⟩
  have q3 : ∀ y ∈ (rotR A i ++ [t]) ++ rotR B j, y ∈ (A ++ [t]) ++ B := fun y hy => by
    rcases List.mem_append.1 hy with q | q
    · exact List.mem_append.2 (.inl (q1 y q))
    · exact List.mem_append.2 (.inr (rot_mem.1 q))
  obtain ⟨s4, g4, f4, A4, o4', I4, so4⟩ := rMerge (n := h.length) hR A3 (HR.same I2 (so3.on fun y hy q => n6 y (q1 y hy) y q rfl)) I3 m3 (fun y hy => h0 y (List.mem_append.2 (.inl (q3 y hy))))
  have o4 := o3.trans o4'
  have t4 := tv6 (tvB (V := V) (S := S) (T := T) la lb o4)
  have soB : SameOut ((A ++ [t]) ++ B) s s4 := ((soA.mono fun y hy => List.mem_append.2 (.inl hy)).trans (so3.mono fun y hy => List.mem_append.2 (.inr hy))).trans (so4.mono q3)
  have m5 : (((rotR A i ++ [t]) ++ rotR B j) ++ [kk]).Nodup := List.nodup_append.2 ⟨m3, by simp, fun y hy z hz e => by simp at hz; subst hz; subst e; exact dk (q3 y hy)⟩
  have q5 : ∀ y ∈ ((rotR A i ++ [t]) ++ rotR B j) ++ [kk], y ∈ ((A ++ [t]) ++ B) ++ [kk] := fun y hy => by
    rcases List.mem_append.1 hy with q | q
    · exact List.mem_append.2 (.inl (q3 y q))
    · exact List.mem_append.2 (.inr q)
  obtain ⟨s5, g5, f5, A5, o5', I5, so5⟩ := rMerge (n := h.length) hR A4 I4 (HR.same Hk (soB.on fun y hy => by simp at hy; subst hy; exact dk)) m5 (fun y hy => h0 y (q5 y hy))
  rw [RT_one] at f2 f5
  refine ⟨s5, g5.take h.length, ?_, A5.take la lb, (o4.trans o5').take, I5, (soB.mono fun y hy => List.mem_append.2 (.inl hy)).trans (so5.mono q5)⟩
  rw [C, call_eq, F46_eq]
  unfold F46
  simp only [go_sem, Nat.reduceAdd, Nat.reduceLeDiff, Nat.reduceMul, Int.reduceBEq, Int.reduceBNe, Int.reduceLT, Int.reduceLE, Int.reduceGT, t0, ar, f1, t1, cLE_t, f2, t2, f3, t3, f4, t4, f5]
  rfl
/-- A row is cut at two places. -/
theorem rCut {P I Q : List Int} {c d : Int} (hR : Rt V S T) (H : TH V S T l0 a b s h) (hcd : (c = Ax V S sl lv 0 ∧ d = Ax V S sl lv 1) ∨ (c = Ax V S sl lv 1 ∧ d = Ax V S sl lv 0)) (er : r = (P ++ c :: I) ++ d :: Q) (HA : HR V (prO V S T l0) s r) (hn : r.Nodup) (h0 : ∀ y ∈ r, Nix V S y) :
    ∃ s' h', C ⟨0, n⟩ 47 [(Value.agg #[(Value.int .i64 V), (Value.int .i64 S), (Value.int .i64 T), ifA a, (Value.int .i64 1), (Value.int .i64 0)]), (Value.int .i64 lv), (Value.int .i64 sl)] h = some ((Value.tuple #[(Value.int .i64 (RT (prO V S T l0) I)), (Value.int .i64 (RT (prO V S T l0) (P ++ Q)))]), h') ∧ TH V S T l0 a b s' h' ∧ Only a b h h' ∧ HR V (prO V S T l0) s' I ∧ HR V (prO V S T l0) s' (P ++ Q) ∧ HR V (prO V S T l0) s' [Ax V S sl lv 0] ∧ HR V (prO V S T l0) s' [Ax V S sl lv 1] ∧ SameOut r s s' := by
  obtain ⟨la, lb⟩ := H.la
  have sm := small_row hR hn h0
  have b0 := tvB (V := V) (S := S) (T := T) la lb Only.refl
  have t0 := tv6 b0
  have ar := fun (m : Md) (h : Heap) => arcs_t (a := a) (lv := lv) (sl := sl) hR m h
  generalize Ax V S sl lv 0 = t at *
  generalize Ax V S sl lv 1 = kk at *
  have lr : r.length = P.length + 1 + I.length + 1 + Q.length := by rw [er]; simp; omega
  have ic : r[P.length]? = some c := by rw [er, List.append_assoc, List.getElem?_append_right (Nat.le_refl _)]; simp
  have id : r[P.length + 1 + I.length]? = some d := by
    rw [er, List.getElem?_append_right (by simp; omega)]
    simp only [List.length_append, List.length_cons]
    rw [show P.length + 1 + I.length - (P.length + (I.length + 1)) = 0 by omega]; rfl
  have n' := hn
  rw [er] at n'
  obtain ⟨n1, n2, n3⟩ := List.nodup_append.1 n'
  obtain ⟨nP, n5, n6⟩ := List.nodup_append.1 n1
  obtain ⟨ncI, nI⟩ := List.nodup_cons.1 n5
  obtain ⟨ndQ, nQ⟩ := List.nodup_cons.1 n2
  have mP : ∀ y ∈ P, y ∈ r := fun y hy => by rw [er]; simp [hy]
  have mI : ∀ y ∈ I, y ∈ r := fun y hy => by rw [er]; simp [hy]
  have mQ : ∀ y ∈ Q, y ∈ r := fun y hy => by rw [er]; simp [hy]
  have mc : c ∈ r := by rw [er]; simp
  have md : d ∈ r := by rw [er]; simp
  have A0 := H.app [Blk.own [(Value.int .i64 V), (Value.int .i64 S), (Value.int .i64 T), ifA a, (Value.int .i64 1), (Value.int .i64 0)]]
  -- from the places on
  have rest : ∀ (k : Heap), TH V S T l0 a b s k → Only a b (h ++ [Blk.own [(Value.int .i64 V), (Value.int .i64 S), (Value.int .i64 T), ifA a, (Value.int .i64 1), (Value.int .i64 0)]]) k → t ∈ r → kk ∈ r → (∀ y, y ∈ [t, kk] ↔ y ∈ [c, d]) → ∃ s' h', J47_0 C ⟨0, h.length⟩ h ((Value.pointer (some ⟨h.length, 0, none⟩))) ((Value.int .i64 t)) ((Value.int .i64 kk)) ((Value.int .i64 ((P.length : Int)))) ((Value.int .i64 (((P.length + 1 + I.length : Nat) : Int)))) k = some ((Value.tuple #[(Value.int .i64 (RT (prO V S T l0) I)), (Value.int .i64 (RT (prO V S T l0) (P ++ Q)))]), h'.take h.length) ∧ TH V S T l0 a b s' h' ∧ Only a b (h ++ [Blk.own [(Value.int .i64 V), (Value.int .i64 S), (Value.int .i64 T), ifA a, (Value.int .i64 1), (Value.int .i64 0)]]) h' ∧ HR V (prO V S T l0) s' I ∧ HR V (prO V S T l0) s' (P ++ Q) ∧ HR V (prO V S T l0) s' [t] ∧ HR V (prO V S T l0) s' [kk] ∧ SameOut r s s' := by
    intro k A1 o1 ht hkk hiff
    have t1 := tv6 (tvB (V := V) (S := S) (T := T) la lb o1)
    obtain ⟨g2, f2, A2, o2'⟩ := rRoot (n := h.length) hR A1 HA h0 ht
    have o2 := o1.trans o2'
    have t2 := tv6 (tvB (V := V) (S := S) (T := T) la lb o2)
    obtain ⟨s3, g3, f3, A3, o3', I3, I3', so3⟩ := rSplit (n := h.length) hR A2 HA hn h0 (P.length + 1 + I.length) (by omega)
    have tk : r.take (P.length + 1 + I.length) = P ++ c :: I := by rw [er, List.take_append_of_le_length (by simp; omega), List.take_of_length_le (by simp; omega)]
    have dk : r.drop (P.length + 1 + I.length) = d :: Q := by
      have := List.take_append_drop (P.length + 1 + I.length) r
      rw [tk] at this
      exact List.append_cancel_left (this.trans er)
    rw [tk] at f3 I3
    rw [dk] at f3 I3'
    have o3 := o2.trans o3'
    have t3 := tv6 (tvB (V := V) (S := S) (T := T) la lb o3)
    obtain ⟨s4, g4, f4, A4, o4', I4, I4', so4⟩ := rSplit (n := h.length) hR A3 I3' n2 (fun y hy => h0 y (by rw [er]; exact List.mem_append.2 (.inr hy))) 1 (by simp)
    rw [show (d :: Q).take 1 = [d] from rfl] at f4 I4
    rw [show (d :: Q).drop 1 = Q from rfl] at f4 I4'
    have o4 := o3.trans o4'
    have t4 := tv6 (tvB (V := V) (S := S) (T := T) la lb o4)
    obtain ⟨s5, g5, f5, A5, o5', I5, I5', so5⟩ := rSplit (n := h.length) hR A4 (HR.same I3 (so4.on fun y hy q => n3 y hy y q rfl)) n1 (fun y hy => h0 y (by rw [er]; exact List.mem_append.2 (.inl hy))) P.length (by simp)
    rw [List.take_left] at f5 I5
    rw [List.drop_left] at f5 I5'
    have o5 := o4.trans o5'
    have t5 := tv6 (tvB (V := V) (S := S) (T := T) la lb o5)
    obtain ⟨s6, g6, f6, A6, o6', I6, I6', so6⟩ := rSplit (n := h.length) hR A5 I5' n5 (fun y hy => h0 y (by rw [er]; exact List.mem_append.2 (.inl (List.mem_append.2 (.inr hy))))) 1 (by simp)
    rw [show (c :: I).take 1 = [c] from rfl] at f6 I6
    rw [show (c :: I).drop 1 = I from rfl] at f6 I6'
    have o6 := o5.trans o6'
    have t6 := tv6 (tvB (V := V) (S := S) (T := T) la lb o6)
    obtain ⟨s7, g7, f7, A7, o7', I7, so7⟩ := rAlone (n := h.length) hR A6 (h0 t ht)
    have o7 := o6.trans o7'
    have t7 := tv6 (tvB (V := V) (S := S) (T := T) la lb o7)
    obtain ⟨s8, g8, f8, A8, o8', I8, so8⟩ := rAlone (n := h.length) hR A7 (h0 kk hkk)
    have o8 := o7.trans o8'
    have t8 := tv6 (tvB (V := V) (S := S) (T := T) la lb o8)
    have tc : t ∈ [c, d] := (hiff t).1 (by simp)
    have kc : kk ∈ [c, d] := (hiff kk).1 (by simp)
    have nt : ∀ y, y ≠ c → y ≠ d → y ≠ t ∧ y ≠ kk := fun y h1 h2 => by
      have : y ∉ [t, kk] := fun q => by
        have := (hiff y).1 q
        simp at this
        rcases this with e | e
        · exact h1 e
        · exact h2 e
      simpa using this
    have yP : ∀ y ∈ P, y ≠ c ∧ y ≠ d := fun y hy => ⟨fun e => n6 y hy c (by simp) e, fun e => n3 y (by simp [hy]) d (by simp) e⟩
    have yI : ∀ y ∈ I, y ≠ c ∧ y ≠ d := fun y hy => ⟨fun e => ncI (e ▸ hy), fun e => n3 y (by simp [hy]) d (by simp) e⟩
    have yQ : ∀ y ∈ Q, y ≠ c ∧ y ≠ d := fun y hy => ⟨fun e => n3 c (by simp) y (by simp [hy]) e.symm, fun e => ndQ (e ▸ hy)⟩
    have al : ∀ L : List Int, (∀ y ∈ L, y ≠ c ∧ y ≠ d) → HR V (prO V S T l0) s6 L → HR V (prO V S T l0) s8 L := fun L hL Hs => by
      refine HR.same (HR.same Hs (so7.on fun y hy q => ?_)) (so8.on fun y hy q => ?_)
      · simp at q; exact (nt y (hL y hy).1 (hL y hy).2).1 q
      · simp at q; exact (nt y (hL y hy).1 (hL y hy).2).2 q
    have P8 := al P yP (HR.same I5 (so6.on fun y hy q => n6 y hy y q rfl))
    have Q8 := al Q yQ (HR.same (HR.same I4' (so5.on fun y hy q => n3 y q y (by simp [hy]) rfl)) (so6.on fun y hy q => n3 y (List.mem_append.2 (.inr q)) y (by simp [hy]) rfl))
    have I8' := al I yI I6'
    have nPQ : (P ++ Q).Nodup := List.nodup_append.2 ⟨nP, nQ, fun y hy z hz e => n3 y (by simp [hy]) z (by simp [hz]) e⟩
    obtain ⟨s9, g9, f9, A9, o9', I9, so9⟩ := rMerge (n := h.length) hR A8 P8 Q8 nPQ (fun y hy => h0 y (by rcases List.mem_append.1 hy with q | q; exact mP y q; exact mQ y q))
    have o9 := o8.trans o9'
    have ncd : ∀ y ∈ [c, d], y ∉ P ++ Q := fun y hy q => by
      rcases List.mem_append.1 q with q | q
      · have := yP y q; simp at hy; rcases hy with e | e; exact this.1 e; exact this.2 e
      · have := yQ y q; simp at hy; rcases hy with e | e; exact this.1 e; exact this.2 e
    have tk2 : t ≠ kk ∨ True := .inr trivial
    have It : HR V (prO V S T l0) s8 [t] := by
      by_cases e : t = kk
      · rw [e]; exact I8
      · exact HR.same I7 (so8.on fun y hy q => by simp at hy q; exact e (hy.symm.trans q))
    have c1 : ((1 : Nat) : Int) = 1 := rfl
    rw [c1] at f4 f6
    have sub9 : ∀ y ∈ P ++ Q, y ∈ r := fun y hy => by rcases List.mem_append.1 hy with q | q; exact mP y q; exact mQ y q
    refine ⟨s9, g9, ?_, A9, o9, HR.same I8' (so9.on fun y hy q => ?_), I9, HR.same It (so9.on fun y hy q => ?_), HR.same I8 (so9.on fun y hy q => ?_), ?_⟩
    · unfold J47_0
      simp only [go_sem, Nat.reduceAdd, Nat.reduceLeDiff, Nat.reduceMul, Int.reduceBEq, Int.reduceBNe, Int.reduceLT, Int.reduceLE, Int.reduceGT, t1, f2, cLE_t, f3, t3, f4, t4, f5, t5, f6, t6, f7, t7, f8, t8, f9]
      exact cLE_t (by rw [t1]; rfl) (by rw [t2]; rfl)
    · rcases List.mem_append.1 q with q | q
      · exact n6 y q y (by simp [hy]) rfl
      · exact n3 y (by simp [hy]) y (by simp [q]) rfl
    · simp at hy; subst hy; exact ncd y tc q
    · simp at hy; subst hy; exact ncd y kc q
    · refine SameOut.trans (SameOut.trans (SameOut.trans (SameOut.trans (SameOut.trans (SameOut.trans so3 (so4.mono ?_)) (so5.mono ?_)) (so6.mono ?_)) (so7.mono ?_)) (so8.mono ?_)) (so9.mono sub9)
      · intro y hy; rw [er]; exact List.mem_append.2 (.inr hy)
      · intro y hy; rw [er]; exact List.mem_append.2 (.inl hy)
      · intro y hy; rw [er]; exact List.mem_append.2 (.inl (List.mem_append.2 (.inr hy)))
      · intro y hy; simp at hy; subst hy; exact ht
      · intro y hy; simp at hy; subst hy; exact hkk
  rcases hcd with ⟨e1, e2⟩ | ⟨e1, e2⟩
  · subst e1 e2
    obtain ⟨g1, f1, A1, o1⟩ := rIndex (n := h.length) hR A0 HA hn h0 ic
    have t1 := tv6 (tvB (V := V) (S := S) (T := T) la lb o1)
    obtain ⟨g2, f2, A2, o2⟩ := rIndex (n := h.length) hR A1 HA hn h0 id
    obtain ⟨s', h', e, A3, o3, z⟩ := rest g2 A2 (o1.trans o2) mc md (fun y => Iff.rfl)
    have gt : ¬ ((P.length : Int) > ((P.length + 1 + I.length : Nat) : Int)) := by omega
    refine ⟨s', h'.take h.length, ?_, A3.take la lb, o3.take, z⟩
    rw [C, call_eq, F47_eq]
    unfold F47
    simp only [go_sem, Nat.reduceAdd, Nat.reduceLeDiff, Nat.reduceMul, Int.reduceBEq, Int.reduceBNe, Int.reduceLT, Int.reduceLE, Int.reduceGT, t0, ar, f1, t1, cLE_t, f2, gt]
    exact e
  · subst e1 e2
    obtain ⟨g1, f1, A1, o1⟩ := rIndex (n := h.length) hR A0 HA hn h0 id
    have t1 := tv6 (tvB (V := V) (S := S) (T := T) la lb o1)
    obtain ⟨g2, f2, A2, o2⟩ := rIndex (n := h.length) hR A1 HA hn h0 ic
    obtain ⟨s', h', e, A3, o3, z⟩ := rest g2 A2 (o1.trans o2) md mc (fun y => by simp; exact Or.comm)
    have gt : ((P.length + 1 + I.length : Nat) : Int) > (P.length : Int) := by omega
    refine ⟨s', h'.take h.length, ?_, A3.take la lb, o3.take, z⟩
    rw [C, call_eq, F47_eq]
    unfold F47
    simp only [go_sem, Nat.reduceAdd, Nat.reduceLeDiff, Nat.reduceMul, Int.reduceBEq, Int.reduceBNe, Int.reduceLT, Int.reduceLE, Int.reduceGT, t0, ar, f1, t1, cLE_t, f2, gt]
    exact e
end Go.Det.E

/- The document's tours: rows begun, linked, cut. -/
namespace Go.Det.E
open Go.Proofs Go.Det Go.Det.U
attribute [local congr] bind_c cond_c
variable {h hh k : Heap} {a b n n0 : Nat} {V S T x y v p f lv u w sl : Int} {l0 : Int → Int} {s s' : NS} {r A B : List Int} {rv av bv : Value} {i j : Nat}
theorem eZ_all (x : Int) : (eZ x).all isCell = true := rfl
theorem begun_lp {h0 : Heap} {ov : Value} (X : Sl h 1 eZ rv r) (hn : r.Nodup) (hi : r[i]? = some x) (hl : r.length < 20000) : ∀ (m j : Nat), j + m = r.length → J49_0 C ⟨0, n⟩ h0 rv ((Value.int .i64 x)) ov ((Value.int .i64 (if i < j then (i : Int) else 0))) ((Value.int .i64 ((j : Int)))) h = J49_1 C ⟨0, n⟩ h0 rv ((Value.int .i64 ((i : Int)))) h := by
  have hil := (List.getElem?_eq_some_iff.1 hi).1
  have len := fun {α : Type} (kk : Value → Option α) => X.len kk
  intro m
  induction m with
  | zero =>
    intro j hj
    obtain rfl : j = r.length := by omega
    rw [if_pos hil, J49_0_step]
    unfold Jr49_0
    simp only [go_sem, Nat.reduceAdd, Nat.reduceLeDiff, Nat.reduceMul, Int.reduceBEq, Int.reduceBNe, Int.reduceLT, Int.reduceLE, Int.reduceGT, len, aBin_lss, Int.lt_irrefl, Jk49_0]
  | succ m ih =>
    intro j hj
    have hlt : (j : Int) < (r.length : Int) := by omega
    have w : IntKind.wrap .i64 ((j : Int) + 1) = ((j + 1 : Nat) : Int) := by rw [wi (by omega) (by omega)]; rfl
    obtain ⟨y, hy⟩ : ∃ y, r[j]? = some y := ⟨r[j]'(by omega), List.getElem?_eq_getElem (by omega)⟩
    obtain ⟨ix, rx⟩ := Sl.getI X hy
    have e := ih (j + 1) (by omega)
    by_cases hji : j = i
    · subst hji
      rw [hi] at hy
      obtain rfl := Option.some.inj hy
      have z : (x == x) = true := by simp
      rw [if_pos (by omega)] at e
      rw [if_neg (by omega), J49_0_step]
      unfold Jr49_0
      simp only [go_sem, Nat.reduceAdd, Nat.reduceLeDiff, Nat.reduceMul, Int.reduceBEq, Int.reduceBNe, Int.reduceLT, Int.reduceLE, Int.reduceGT, len, aBin_lss, hlt, ixSV_p, ix, rx, aBin_eql, z, aBin_add, w]
      exact e
    · have z : (y == x) = false := by
        rw [beq_eq_false_iff_ne]
        intro e
        subst e
        exact hji ((List.getElem?_inj (by omega) hn).1 (hy.trans hi.symm))
      have c : (if i < j then (i : Int) else 0) = (if i < j + 1 then (i : Int) else 0) := by
        by_cases h1 : i < j
        · rw [if_pos h1, if_pos (by omega)]
        · rw [if_neg h1, if_neg (by omega)]
      rw [c, J49_0_step]
      unfold Jr49_0
      simp only [go_sem, Nat.reduceAdd, Nat.reduceLeDiff, Nat.reduceMul, Int.reduceBEq, Int.reduceBNe, Int.reduceLT, Int.reduceLE, Int.reduceGT, len, aBin_lss, hlt, ixSV_p, ix, rx, aBin_eql, z, aBin_add, w]
      exact e
theorem refBegun (X : Sl h 1 eZ rv r) (hn : r.Nodup) (hi : r[i]? = some x) (hl : r.length < 20000) :
    ∃ v h', C ⟨0, n⟩ 49 [rv, (Value.int .i64 x)] h = some (v, h') ∧ SlO h' h.length 1 eZ v (rotR r i) ∧ Old h.length h h' := by
  have hil := (List.getElem?_eq_some_iff.1 hi).1
  have e1 := begun_lp (n := n) (h0 := h) (ov := .slice none 0 0) X hn hi hl r.length 0 (by omega)
  rw [if_neg (by omega)] at e1
  obtain ⟨v1, a1, _, X1⟩ := Sl.sufB (P := Try.prog) tInt9 X (k := (i : Int)) (by omega) (by omega)
  obtain ⟨v2, a2, _, X2⟩ := Sl.preB (P := Try.prog) tInt9 X (k := (i : Int)) (by omega) (by omega)
  simp only [Int.toNat_natCast] at X1 X2
  obtain ⟨v3, h3, a3, S3, O3⟩ := append_sl (md := ⟨0, n⟩) tInt9 (SlO.nil h h.length eZ_len) X1 (Nat.zero_le _) (Nat.le_refl _) eZ_all (by simp; omega)
  obtain ⟨v4, h4, a4, S4, O4⟩ := append_sl (md := ⟨0, n⟩) tInt9 S3 (X2.heap fun hl => O3.old _ hl) (Nat.zero_le _) O3.len eZ_all (by simp; omega)
  refine ⟨v4, h4, ?_, S4, O3.trans O4⟩
  rw [C, call_eq, F49_eq]
  unfold F49
  have z0 : (((0 : Nat) : Int)) = 0 := rfl
  rw [z0] at e1
  rw [e1]
  unfold J49_1
  simp only [a1, a3, a2, a4]
theorem refLinked {t kk : Int} (XA : Sl h 1 eZ av A) (XB : Sl h 1 eZ bv B) (nA : A.Nodup) (nB : B.Nodup) (hi : A[i]? = some x) (hj : B[j]? = some y) (hA : A.length < 20000) (hB : B.length < 20000) :
    ∃ v h', C ⟨0, n⟩ 73 [av, bv, (Value.int .i64 x), (Value.int .i64 y), (Value.int .i64 t), (Value.int .i64 kk)] h = some (v, h') ∧ SlO h' h.length 1 eZ v (linkR A B i j t kk) ∧ Old h.length h h' := by
  have lrA : (rotR A i).length = A.length := by unfold rotR; simp; omega
  have lrB : (rotR B j).length = B.length := by unfold rotR; simp; omega
  obtain ⟨v1, h1, e1, S1, O1⟩ := refBegun (n := n) XA nA hi hA
  obtain ⟨v2, h2, e2, S2, O2⟩ := append_sl (md := ⟨0, n⟩) tInt9 (SlO.nil h1 h.length eZ_len) S1.sl (Nat.zero_le _) O1.len eZ_all (by simp [lrA]; omega)
  have OO2 := O1.trans O2
  obtain ⟨v3, h3, e3, S3, O3⟩ := append_own (md := ⟨0, n⟩) tInt9 S2 (cs := [(Value.int .i64 t)]) (ys := [t]) (Nat.zero_le _) OO2.len (by simp [flat]) (by simp) rfl (by simp [lrA]; omega)
  have OO3 := OO2.trans O3
  obtain ⟨v4, h4, e4, S4, O4⟩ := refBegun (n := n) (XB.heap fun hl => OO3.old _ hl) nB hj hB
  have hl3 := OO3.len
  have S3' : SlO h4 h.length 1 eZ v3 ([] ++ rotR A i ++ [t]) := S3.at fun y h1 h2 => O4.old _ h2
  have OO4 := OO3.trans (O4.mono hl3)
  obtain ⟨v5, h5, e5, S5, O5⟩ := append_sl (md := ⟨0, n⟩) tInt9 S3' S4.sl (Nat.zero_le _) OO4.len eZ_all (by simp [lrA, lrB]; omega)
  have OO5 := OO4.trans O5
  obtain ⟨v6, h6, e6, S6, O6⟩ := append_own (md := ⟨0, n⟩) tInt9 S5 (cs := [(Value.int .i64 kk)]) (ys := [kk]) (Nat.zero_le _) OO5.len (by simp [flat]) (by simp) rfl (by simp [lrA, lrB]; omega)
  simp only [List.length_cons, List.length_nil, Nat.zero_add] at e3 e6
  refine ⟨v6, h6, ?_, S6, OO5.trans O6⟩
  rw [C, call_eq, F73_eq]
  unfold F73
  simp only [go_sem, Nat.reduceAdd, Nat.reduceLeDiff, Nat.reduceMul, Int.reduceBEq, Int.reduceBNe, Int.reduceLT, Int.reduceLE, Int.reduceGT, e1, e2, e3, e4, e5, e6]
/-- The rows that a cut makes, as a loop: the nodes that were seen. -/
def cutGo (c d : Int) : List Int → Nat → List Int → List Int → List Int × List Int
  | [], _, I, O => (I, O)
  | x :: xs, m, I, O => if x = c ∨ x = d then cutGo c d xs (m + 1) I O else if m = 1 then cutGo c d xs m (I ++ [x]) O else cutGo c d xs m I (O ++ [x])
theorem cutGo_pre {c d : Int} : ∀ (P rest : List Int) (m : Nat) (I O : List Int), (∀ y ∈ P, y ≠ c ∧ y ≠ d) → cutGo c d (P ++ rest) m I O = if m = 1 then cutGo c d rest m (I ++ P) O else cutGo c d rest m I (O ++ P) := by
  intro P
  induction P with
  | nil => intro rest m I O _; simp
  | cons x xs ih =>
    intro rest m I O hP
    have hx := hP x (by simp)
    rw [List.cons_append, cutGo, if_neg (by rintro (e | e); exact hx.1 e; exact hx.2 e)]
    by_cases hm : m = 1
    · rw [if_pos hm, ih rest m _ _ fun y hy => hP y (by simp [hy]), if_pos hm, if_pos hm, List.append_assoc]; rfl
    · rw [if_neg hm, ih rest m _ _ fun y hy => hP y (by simp [hy]), if_neg hm, if_neg hm, List.append_assoc]; rfl
theorem cutGo_all {c d c' d' : Int} {P I Q : List Int} (hcd : (c' = c ∧ d' = d) ∨ (c' = d ∧ d' = c)) (hP : ∀ y ∈ P, y ≠ c ∧ y ≠ d) (hI : ∀ y ∈ I, y ≠ c ∧ y ≠ d) (hQ : ∀ y ∈ Q, y ≠ c ∧ y ≠ d) : cutGo c' d' ((P ++ c :: I) ++ d :: Q) 0 [] [] = (I, P ++ Q) := by
  have hs : ∀ {y : Int}, y ≠ c ∧ y ≠ d → y ≠ c' ∧ y ≠ d' := fun hy => by rcases hcd with ⟨rfl, rfl⟩ | ⟨rfl, rfl⟩; exact hy; exact ⟨hy.2, hy.1⟩
  rw [List.append_assoc, cutGo_pre P _ _ _ _ fun y hy => hs (hP y hy), if_neg (by decide), List.cons_append, cutGo, if_pos (by rcases hcd with ⟨rfl, rfl⟩ | ⟨rfl, rfl⟩; exact .inl rfl; exact .inr rfl), cutGo_pre I _ _ _ _ fun y hy => hs (hI y hy), if_pos rfl, cutGo, if_pos (by rcases hcd with ⟨rfl, rfl⟩ | ⟨rfl, rfl⟩; exact .inr rfl; exact .inl rfl)]
  have := cutGo_pre Q [] (0 + 1 + 1) ([] ++ I) ([] ++ P) fun y hy => hs (hQ y hy)
  rw [List.append_nil, if_neg (by decide)] at this
  rw [this]; simp [cutGo]
abbrev nilS : Value := .slice none 0 0
theorem keep2 {ε : Type} {enc : ε → List Value} {sz : Nat} {sv tv v' : Value} {ys zs : List ε} (SO : SlO h n0 sz enc tv ys) (f1 : ∀ x, x < h.length → (sv = nilS ∨ x ≠ slB sv) → k[x]? = h[x]?) (hd : sv = nilS ∨ tv = nilS ∨ slB sv ≠ slB tv) (S1 : SlO k h.length sz enc v' zs) : SlO k n0 sz enc tv ys ∧ (v' = nilS ∨ tv = nilS ∨ slB v' ≠ slB tv) := by
  rcases Classical.em (tv = nilS) with ht | ht
  · subst ht
    have := SO.nil_of
    subst this
    exact ⟨SlO.nil _ _ SO.sl.he, .inr (.inl rfl)⟩
  · rcases SO.own with e | ⟨q1, cs, q2⟩
    · exact absurd e ht
    · have lt := lt_of q2
      refine ⟨SlO.heap2 SO (fun _ => f1 _ lt ?_) (Nat.le_refl _), ?_⟩
      · rcases hd with e | e | e
        · exact .inl e
        · exact absurd e ht
        · exact .inr (Ne.symm e)
      · rcases S1.own with e | ⟨q3, _⟩
        · exact .inl e
        · exact .inr (.inr (by omega))
theorem cut_lp {h0 : Heap} {s6 s7 : Value} {c d : Int} (hb : slB rv < n0) (hl : r.length < 20000) : ∀ (m j : Nat) (k : Heap) (q : Nat) (iv ov : Value) (I O : List Int), j + m = r.length → I.length + O.length + q = j → Sl k 1 eZ rv r → n0 ≤ k.length → SlO k n0 1 eZ iv I → SlO k n0 1 eZ ov O → (iv = .slice none 0 0 ∨ ov = .slice none 0 0 ∨ slB iv ≠ slB ov) →
    ∃ v1 v2 h', J41_0 C ⟨0, n⟩ h0 rv ((Value.int .i64 c)) ((Value.int .i64 d)) s6 s7 iv ov ((Value.int .i64 ((q : Int)))) ((Value.int .i64 ((j : Int)))) k = some ((Value.tuple #[v1, v2]), h') ∧ SlO h' n0 1 eZ v1 (cutGo c d (r.drop j) q I O).1 ∧ SlO h' n0 1 eZ v2 (cutGo c d (r.drop j) q I O).2 ∧ Old n0 k h' := by
  intro m
  induction m with
  | zero =>
    intro j k q iv ov I O hj hq X hk SI SO hd
    obtain rfl : j = r.length := by omega
    have len := fun {α : Type} (kk : Value → Option α) => X.len kk
    refine ⟨iv, ov, k, ?_, by rw [List.drop_length]; exact SI, by rw [List.drop_length]; exact SO, Old.refl _ _⟩
    rw [J41_0_step]
    unfold Jr41_0
    simp only [go_sem, Nat.reduceAdd, Nat.reduceLeDiff, Nat.reduceMul, Int.reduceBEq, Int.reduceBNe, Int.reduceLT, Int.reduceLE, Int.reduceGT, len, aBin_lss, Int.lt_irrefl, Jk41_0]
    unfold J41_1
    rfl
  | succ m ih =>
    intro j k q iv ov I O hj hq X hk SI SO hd
    have len := fun {α : Type} (kk : Value → Option α) => X.len kk
    have hlt : (j : Int) < (r.length : Int) := by omega
    have w : IntKind.wrap .i64 ((j : Int) + 1) = ((j + 1 : Nat) : Int) := by rw [wi (by omega) (by omega)]; rfl
    have wq : IntKind.wrap .i64 ((q : Int) + 1) = ((q + 1 : Nat) : Int) := by rw [wi (by omega) (by omega)]; rfl
    have hy : r[j]? = some (r[j]'(by omega)) := List.getElem?_eq_getElem (by omega)
    have dj : r.drop j = r[j]'(by omega) :: r.drop (j + 1) := List.drop_eq_getElem_cons (by omega)
    generalize r[j]'(by omega) = y at hy dj
    obtain ⟨ix, rx⟩ := Sl.getI X hy
    rw [dj, cutGo]
    by_cases hc : y = c ∨ y = d
    · rw [if_pos hc]
      obtain ⟨v1, v2, h', e, z⟩ := ih (j + 1) k (q + 1) iv ov I O (by omega) (by omega) X hk SI SO hd
      refine ⟨v1, v2, h', ?_, z⟩
      rw [J41_0_step]
      unfold Jr41_0
      by_cases e1 : y = c
      · subst e1
        have z1 : (y == y) = true := by simp
        simp only [go_sem, Nat.reduceAdd, Nat.reduceLeDiff, Nat.reduceMul, Int.reduceBEq, Int.reduceBNe, Int.reduceLT, Int.reduceLE, Int.reduceGT, len, aBin_lss, hlt, ixSV_p, ix, rx, aBin_eql, z1, aBin_add, w, wq]
        exact e
      · obtain rfl : y = d := by rcases hc with q | q; exact absurd q e1; exact q
        have z1 : (y == c) = false := by rw [beq_eq_false_iff_ne]; exact e1
        have z2 : (y == y) = true := by simp
        simp only [go_sem, Nat.reduceAdd, Nat.reduceLeDiff, Nat.reduceMul, Int.reduceBEq, Int.reduceBNe, Int.reduceLT, Int.reduceLE, Int.reduceGT, len, aBin_lss, hlt, ixSV_p, ix, rx, aBin_eql, z1, z2, aBin_add, w, wq]
        exact e
    · rw [if_neg hc]
      have z1 : (y == c) = false := by rw [beq_eq_false_iff_ne]; exact fun e => hc (.inl e)
      have z2 : (y == d) = false := by rw [beq_eq_false_iff_ne]; exact fun e => hc (.inr e)
      by_cases hq1 : q = 1
      · subst hq1
        rw [if_pos rfl]
        have z3 : (((1 : Nat) : Int) == 1) = true := rfl
        obtain ⟨v1, h1, ea, S1, l1, f1⟩ := append_own2 (md := ⟨0, n⟩) (ys := [y]) tInt9 SI (Nat.zero_le _) hk (cs := [(Value.int .i64 y)]) (by simp [flat]) (by simp) rfl (by simp; omega)
        simp only [List.length_cons, List.length_nil, Nat.zero_add] at ea
        have nI : iv = nilS ∨ n0 ≤ slB iv := SI.own.imp id fun q => q.1
        obtain ⟨SO', hd'⟩ := keep2 SO f1 hd S1
        obtain ⟨v1', v2', h', e, z1', z2', O'⟩ := ih (j + 1) h1 1 v1 ov (I ++ [y]) O (by omega) (by simp; omega) (X.heap fun _ => f1 _ (by omega) (nI.imp id fun q => by omega)) (by omega) (S1.mono hk) SO' hd'
        refine ⟨v1', v2', h', ?_, z1', z2', ⟨by have := O'.len; omega, fun b hb => (O'.old b hb).trans (f1 b (by omega) (nI.imp id fun q => by omega))⟩⟩
        rw [J41_0_step]
        unfold Jr41_0
        simp only [go_sem, Nat.reduceAdd, Nat.reduceLeDiff, Nat.reduceMul, Int.reduceBEq, Int.reduceBNe, Int.reduceLT, Int.reduceLE, Int.reduceGT, len, aBin_lss, hlt, ixSV_p, ix, rx, aBin_eql, z1, z2, z3, ea, aBin_add, w]
        exact e
      · rw [if_neg hq1]
        have z3 : ((q : Int) == 1) = false := by rw [beq_eq_false_iff_ne]; omega
        obtain ⟨v1, h1, ea, S1, l1, f1⟩ := append_own2 (md := ⟨0, n⟩) (ys := [y]) tInt9 SO (Nat.zero_le _) hk (cs := [(Value.int .i64 y)]) (by simp [flat]) (by simp) rfl (by simp; omega)
        simp only [List.length_cons, List.length_nil, Nat.zero_add] at ea
        have nI : ov = nilS ∨ n0 ≤ slB ov := SO.own.imp id fun q => q.1
        obtain ⟨SO', hd'⟩ := keep2 SI f1 (by rcases hd with e | e | e; exact .inr (.inl e); exact .inl e; exact .inr (.inr (Ne.symm e))) S1
        obtain ⟨v1', v2', h', e, z1', z2', O'⟩ := ih (j + 1) h1 q iv v1 I (O ++ [y]) (by omega) (by simp; omega) (X.heap fun _ => f1 _ (by omega) (nI.imp id fun q => by omega)) (by omega) SO' (S1.mono hk) (by rcases hd' with e | e | e; exact .inr (.inl e); exact .inl e; exact .inr (.inr (Ne.symm e)))
        refine ⟨v1', v2', h', ?_, z1', z2', ⟨by have := O'.len; omega, fun b hb => (O'.old b hb).trans (f1 b (by omega) (nI.imp id fun q => by omega))⟩⟩
        rw [J41_0_step]
        unfold Jr41_0
        simp only [go_sem, Nat.reduceAdd, Nat.reduceLeDiff, Nat.reduceMul, Int.reduceBEq, Int.reduceBNe, Int.reduceLT, Int.reduceLE, Int.reduceGT, len, aBin_lss, hlt, ixSV_p, ix, rx, aBin_eql, z1, z2, z3, ea, aBin_add, w]
        exact e
theorem refCut {c d c' d' : Int} {P I Q : List Int} (X : Sl h 1 eZ rv r) (hp : 0 < h.length) (hl : r.length < 20000) (er : r = (P ++ c :: I) ++ d :: Q) (hcd : (c' = c ∧ d' = d) ∨ (c' = d ∧ d' = c)) (hn : r.Nodup) :
    ∃ v1 v2 h', C ⟨0, n⟩ 41 [rv, (Value.int .i64 c'), (Value.int .i64 d')] h = some ((Value.tuple #[v1, v2]), h') ∧ SlO h' h.length 1 eZ v1 I ∧ SlO h' h.length 1 eZ v2 (P ++ Q) ∧ Old h.length h h' := by
  have n' := hn
  rw [er] at n'
  obtain ⟨n1, n2, n3⟩ := List.nodup_append.1 n'
  obtain ⟨nP, n5, n6⟩ := List.nodup_append.1 n1
  obtain ⟨ncI, nI⟩ := List.nodup_cons.1 n5
  obtain ⟨ndQ, nQ⟩ := List.nodup_cons.1 n2
  have yP : ∀ y ∈ P, y ≠ c ∧ y ≠ d := fun y hy => ⟨fun e => n6 y hy c (by simp) e, fun e => n3 y (by simp [hy]) d (by simp) e⟩
  have yI : ∀ y ∈ I, y ≠ c ∧ y ≠ d := fun y hy => ⟨fun e => ncI (e ▸ hy), fun e => n3 y (by simp [hy]) d (by simp) e⟩
  have yQ : ∀ y ∈ Q, y ≠ c ∧ y ≠ d := fun y hy => ⟨fun e => n3 c (by simp) y (by simp [hy]) e.symm, fun e => ndQ (e ▸ hy)⟩
  have hb : slB rv < h.length := by
    rcases X.is with ⟨rfl, rfl⟩ | ⟨b, o, kk, rfl, hb, hc, hl⟩
    · exact hp
    · exact lt_of hb
  obtain ⟨v1, v2, h', e, S1, S2, O⟩ := cut_lp (n := n) (n0 := h.length) (h0 := h) (s6 := nilS) (s7 := nilS) (c := c') (d := d') hb hl r.length 0 h 0 nilS nilS [] [] (by omega) (by simp) X (Nat.le_refl _) (SlO.nil _ _ eZ_len) (SlO.nil _ _ eZ_len) (.inl rfl)
  have ec : cutGo c' d' r 0 [] [] = (I, P ++ Q) := by rw [er]; exact cutGo_all hcd yP yI yQ
  rw [List.drop_zero, ec] at S1 S2
  refine ⟨v1, v2, h', ?_, S1, S2, O⟩
  rw [C, call_eq, F41_eq]
  unfold F41
  exact e
end Go.Det.E

/- The play of 10: equal lists; a level's rows; the row of a node; rows without some. -/
namespace Go.Det.E
open Go.Proofs Go.Det Go.Det.U
attribute [local congr] bind_c cond_c
variable {h hh k : Heap} {a b q n n0 : Nat} {V S T x y p f u w sl : Int} {l0 : Int → Int} {s s' : NS} {r A B : List Int} {rv av bv RW LK : Value} {i j lv : Nat} {rs : List (List Int)} {rvs lvs lks : List Value}
theorem same_lp {h0 : Heap} {s4 : Value} (X : Sl h 1 eZ av r) (Y : Sl h 1 eZ bv r) (hl : r.length < 20000) : ∀ (m j : Nat), j + m = r.length → J35_0 C ⟨0, n⟩ h0 av bv s4 ((Value.int .i64 ((r.length : Int)))) ((Value.int .i64 ((j : Int)))) h = some ((Value.bool true), h0) := by
  intro m
  induction m with
  | zero =>
    intro j hj
    obtain rfl : j = r.length := by omega
    rw [J35_0_step]
    unfold Jr35_0
    simp only [go_sem, Nat.reduceAdd, Nat.reduceLeDiff, Nat.reduceMul, Int.reduceBEq, Int.reduceBNe, Int.reduceLT, Int.reduceLE, Int.reduceGT, aBin_lss, Int.lt_irrefl, Jk35_0]
  | succ m ih =>
    intro j hj
    have hlt : (j : Int) < (r.length : Int) := by omega
    have w : IntKind.wrap .i64 ((j : Int) + 1) = ((j + 1 : Nat) : Int) := by rw [wi (by omega) (by omega)]; rfl
    obtain ⟨y, hy⟩ : ∃ y, r[j]? = some y := ⟨r[j]'(by omega), List.getElem?_eq_getElem (by omega)⟩
    obtain ⟨ix, rx⟩ := Sl.getI X hy
    obtain ⟨iy, ry⟩ := Sl.getI Y hy
    rw [J35_0_step]
    unfold Jr35_0
    simp only [go_sem, Nat.reduceAdd, Nat.reduceLeDiff, Nat.reduceMul, Int.reduceBEq, Int.reduceBNe, Int.reduceLT, Int.reduceLE, Int.reduceGT, aBin_lss, hlt, ixSV_p, ix, rx, iy, ry, bne_self_eq_false, aBin_add, w]
    exact ih (j + 1) (by omega)
theorem same_t (X : Sl h 1 eZ av r) (Y : Sl h 1 eZ bv r) (hl : r.length < 20000) : C ⟨0, n⟩ 35 [av, bv] h = some ((Value.bool true), h) := by
  have len := fun {α : Type} (kk : Value → Option α) => X.len kk
  have len2 := fun {α : Type} (kk : Value → Option α) => Y.len kk
  have e := same_lp (n := n) (h0 := h) (s4 := (Value.bool false)) X Y hl r.length 0 (by omega)
  rw [C, call_eq, F35_eq]
  unfold F35
  simp only [go_sem, Nat.reduceAdd, Nat.reduceLeDiff, Nat.reduceMul, Int.reduceBEq, Int.reduceBNe, Int.reduceLT, Int.reduceLE, Int.reduceGT, len, len2, bne_self_eq_false]
  exact e
/-- The play's block. -/
abbrev pC (V S T : Int) (a : Nat) (RW LK : Value) : List Value := [(Value.int .i64 V), (Value.int .i64 S), (Value.int .i64 T), (Value.int .i64 V), (Value.int .i64 S), (Value.int .i64 T), ifA a, (Value.int .i64 1), (Value.int .i64 0), RW, LK]
theorem p3 (hq : h[q]? = some (.own (pC V S T a RW LK))) : rdN h q 0 3 = some [(Value.int .i64 V), (Value.int .i64 S), (Value.int .i64 T)] := by rw [rdN_at hq (by show 3 ≤ 11; omega)]; rfl
theorem p6 (hq : h[q]? = some (.own (pC V S T a RW LK))) : rdN h q 3 6 = some [(Value.int .i64 V), (Value.int .i64 S), (Value.int .i64 T), ifA a, (Value.int .i64 1), (Value.int .i64 0)] := by rw [rdN_at hq (by show 9 ≤ 11; omega)]; rfl
theorem pRW (hq : h[q]? = some (.own (pC V S T a RW LK))) : rd h q 9 = some RW := by rw [rd_at hq]; rfl
theorem pLK (hq : h[q]? = some (.own (pC V S T a RW LK))) : rd h q 10 = some LK := by rw [rd_at hq]; rfl
/-- A level's rows in memory. -/
structure LR (h : Heap) (lv : Value) (rvs : List Value) (rs : List (List Int)) : Prop where
  sl : Sl h 1 eV lv rvs
  f2 : F2 (fun rv r => Sl h 1 eZ rv r) rvs rs
theorem LR.len {lv : Value} (X : LR h lv rvs rs) : rvs.length = rs.length := X.f2.len
theorem LR.heap {lv : Value} (X : LR h lv rvs rs) (o : ∀ y, y < h.length → (y = slB lv ∨ ∃ rv ∈ rvs, y = slB rv) → k[y]? = h[y]?) : LR k lv rvs rs :=
  ⟨X.sl.heap fun hl => o _ hl (.inl rfl), F2.mk X.f2.len fun i rv r h1 h2 => (X.f2.get i rv r h1 h2).heap fun hl => o _ hl (.inr ⟨rv, List.mem_of_getElem? h1, rfl⟩)⟩
/-- The first row that has a node. -/
theorem row_in {s6 s17 s18 s19 : Value} {i : Nat} (X : Sl h 1 eZ rv r) (hl : r.length < 20000) : ∀ (m j : Nat), j + m = r.length → (∀ y ∈ r.take j, y ≠ x) → J72_0b0 C ⟨0, n⟩ ((Value.int .i64 x)) s6 ((Value.int .i64 ((i : Int)))) s17 s18 s19 rv ((Value.int .i64 ((r.length : Int)))) ((Value.int .i64 ((j : Int)))) h = if x ∈ r then some (.inr (.ret, ((Value.int .i64 x), (Value.int .i64 ((i : Int))), s17, s18, s19), h)) else (aBin Try.prog .add 3 s19 ((Value.int .i64 1)) fun v1 => some (.inl (((Value.int .i64 x), s6, s17, s18, v1), h))) := by
  intro m
  induction m with
  | zero =>
    intro j hj hb
    obtain rfl : j = r.length := by omega
    rw [List.take_length] at hb
    rw [if_neg fun q => hb x q rfl, J72_0b0_step]
    unfold Jr72_0b0
    simp only [go_sem, Nat.reduceAdd, Nat.reduceLeDiff, Nat.reduceMul, Int.reduceBEq, Int.reduceBNe, Int.reduceLT, Int.reduceLE, Int.reduceGT, aBin_lss, Int.lt_irrefl, Jk72_0b0]
  | succ m ih =>
    intro j hj hb
    have hlt : (j : Int) < (r.length : Int) := by omega
    have w : IntKind.wrap .i64 ((j : Int) + 1) = ((j + 1 : Nat) : Int) := by rw [wi (by omega) (by omega)]; rfl
    have hy : r[j]? = some (r[j]'(by omega)) := List.getElem?_eq_getElem (by omega)
    have tk : r.take (j + 1) = r.take j ++ [r[j]'(by omega)] := by rw [List.take_add_one, hy]; rfl
    generalize r[j]'(by omega) = y at hy tk
    obtain ⟨ix, rx⟩ := Sl.getI X hy
    rw [J72_0b0_step]
    unfold Jr72_0b0
    by_cases hc : x = y
    · subst hc
      have z : (x == x) = true := by simp
      rw [if_pos (List.mem_of_getElem? hy)]
      simp only [go_sem, Nat.reduceAdd, Nat.reduceLeDiff, Nat.reduceMul, Int.reduceBEq, Int.reduceBNe, Int.reduceLT, Int.reduceLE, Int.reduceGT, aBin_lss, hlt, ixSV_p, ix, rx, aBin_eql, z, Jk72_0b0]
    · have z : (x == y) = false := by rw [beq_eq_false_iff_ne]; exact hc
      simp only [go_sem, Nat.reduceAdd, Nat.reduceLeDiff, Nat.reduceMul, Int.reduceBEq, Int.reduceBNe, Int.reduceLT, Int.reduceLE, Int.reduceGT, aBin_lss, hlt, ixSV_p, ix, rx, aBin_eql, z, aBin_add, w]
      exact ih (j + 1) (by omega) fun y' hy' => by
        rw [tk] at hy'
        rcases List.mem_append.1 hy' with q | q
        · exact hb y' q
        · simp at q; subst q; exact Ne.symm hc
theorem row_lp {h0 : Heap} {s6 lvv : Value} (X : LR h lvv rvs rs) (hrs : rs.length < 20000) (hl : ∀ r ∈ rs, r.length < 20000) {i : Nat} (hr : rs[i]? = some r) (hx : x ∈ r) : ∀ (m j : Nat), j + m = i → (∀ r' ∈ rs.take i, x ∉ r') → J72_0 C ⟨0, n⟩ h0 ((Value.int .i64 x)) s6 lvv ((Value.int .i64 ((rvs.length : Int)))) ((Value.int .i64 ((j : Int)))) h = some ((Value.int .i64 ((i : Int))), h0) := by
  have hil := (List.getElem?_eq_some_iff.1 hr).1
  have hrl := X.len
  intro m
  induction m with
  | zero =>
    intro j hj hb
    obtain rfl : j = i := by omega
    have hlt : (j : Int) < (rvs.length : Int) := by omega
    obtain ⟨rv, hv⟩ : ∃ rv, rvs[j]? = some rv := ⟨rvs[j]'(by omega), List.getElem?_eq_getElem (by omega)⟩
    obtain ⟨ix, rx⟩ := Sl.getV X.sl hv
    have Y := X.f2.get j rv r hv hr
    have len := fun {α : Type} (kk : Value → Option α) => Y.len kk
    have e := row_in (n := n) (x := x) (s6 := s6) (s17 := lvv) (s18 := (Value.int .i64 ((rvs.length : Int)))) (s19 := (Value.int .i64 ((j : Int)))) (i := j) Y (hl r (List.mem_of_getElem? hr)) r.length 0 (by omega) (by simp)
    rw [if_pos hx] at e
    have z0 : (((0 : Nat) : Int)) = 0 := rfl
    rw [z0] at e
    rw [J72_0_step]
    unfold Jr72_0
    simp only [go_sem, Nat.reduceAdd, Nat.reduceLeDiff, Nat.reduceMul, Int.reduceBEq, Int.reduceBNe, Int.reduceLT, Int.reduceLE, Int.reduceGT, aBin_lss, hlt, ixSV_p, ix, rx, len, e, Jk72_0]
  | succ m ih =>
    intro j hj hb
    have hlt : (j : Int) < (rvs.length : Int) := by omega
    have w : IntKind.wrap .i64 ((j : Int) + 1) = ((j + 1 : Nat) : Int) := by rw [wi (by omega) (by omega)]; rfl
    obtain ⟨rv, hv⟩ : ∃ rv, rvs[j]? = some rv := ⟨rvs[j]'(by omega), List.getElem?_eq_getElem (by omega)⟩
    obtain ⟨r', hr'⟩ : ∃ r', rs[j]? = some r' := ⟨rs[j]'(by omega), List.getElem?_eq_getElem (by omega)⟩
    obtain ⟨ix, rx⟩ := Sl.getV X.sl hv
    have Y := X.f2.get j rv r' hv hr'
    have len := fun {α : Type} (kk : Value → Option α) => Y.len kk
    have e := row_in (n := n) (x := x) (s6 := s6) (s17 := lvv) (s18 := (Value.int .i64 ((rvs.length : Int)))) (s19 := (Value.int .i64 ((j : Int)))) (i := j) Y (hl r' (List.mem_of_getElem? hr')) r'.length 0 (by omega) (by simp)
    have hn : x ∉ r' := hb r' (List.mem_iff_getElem?.2 ⟨j, by rw [List.getElem?_take_of_lt (by omega)]; exact hr'⟩)
    rw [if_neg hn] at e
    have z0 : (((0 : Nat) : Int)) = 0 := rfl
    rw [z0] at e
    rw [J72_0_step]
    unfold Jr72_0
    simp only [go_sem, Nat.reduceAdd, Nat.reduceLeDiff, Nat.reduceMul, Int.reduceBEq, Int.reduceBNe, Int.reduceLT, Int.reduceLE, Int.reduceGT, aBin_lss, hlt, ixSV_p, ix, rx, len, e, aBin_add, w]
    exact ih (j + 1) (by omega) hb
/-- Rows have nothing in common. -/
def DjL (r r' : List Int) : Prop := ∀ y ∈ r, y ∉ r'
theorem pw_get {rs : List (List Int)} (hp : rs.Pairwise DjL) {i j : Nat} {r r' : List Int} (hi : rs[i]? = some r) (hj : rs[j]? = some r') (hne : i ≠ j) : DjL r r' := by
  obtain ⟨h1, rfl⟩ := List.getElem?_eq_some_iff.1 hi
  obtain ⟨h2, rfl⟩ := List.getElem?_eq_some_iff.1 hj
  rw [List.pairwise_iff_getElem] at hp
  rcases Nat.lt_or_gt_of_ne hne with q | q
  · exact hp i j h1 h2 q
  · exact fun y hy hq => hp j i h2 h1 q y hq hy
theorem row_s10 {lvv : Value} (hq : h[q]? = some (.own (pC V S T a RW LK))) (XR : Sl h 1 eV RW lvs) (hlv : lvs[lv]? = some lvv) (X : LR h lvv rvs rs) (hrs : rs.length < 20000) (hl : ∀ r ∈ rs, r.length < 20000) (hp : rs.Pairwise DjL) (hr : rs[i]? = some r) (hx : x ∈ r) :
    C ⟨0, n⟩ 72 [(Value.pointer (some ⟨q, 0, none⟩)), (Value.int .i64 ((lv : Int))), (Value.int .i64 x)] h = some ((Value.int .i64 ((i : Int))), h) := by
  have rR := pRW hq
  obtain ⟨ix, rx⟩ := Sl.getV XR hlv
  have len := fun {α : Type} (kk : Value → Option α) => X.sl.len kk
  have e := row_lp (n := n) (h0 := h) (s6 := (Value.int .i64 0)) X hrs hl hr hx i 0 (by omega) (fun r' hr' => by
    obtain ⟨j, hj⟩ := List.mem_iff_getElem?.1 hr'
    have hjl := (List.getElem?_eq_some_iff.1 hj).1
    rw [List.length_take] at hjl
    rw [List.getElem?_take_of_lt (by omega)] at hj
    exact fun hy => pw_get hp hj hr (by omega) x hy hx)
  rw [C, call_eq, F72_eq]
  unfold F72
  simp only [go_sem, Nat.reduceAdd, Nat.reduceLeDiff, Nat.reduceMul, Int.reduceBEq, Int.reduceBNe, Int.reduceLT, Int.reduceLE, Int.reduceGT, okNil, okP_p, rR, ix, rx, len]
  exact e
theorem tRows10 : SlT Try.prog 43 44 1 24 [.slice none 0 0] := ⟨by kernel_rfl, by kernel_rfl, by kernel_rfl, rfl, by decide, by decide, rfl⟩
theorem bRows10 {α : Type} {a : Option Addr} {l c : Nat} (h : Heap) (k : Value → Heap → Option α) : aBuildSlice Try.prog 43 1 [(0, .slice a l c)] h k = k ((Value.slice (some ⟨h.length, 0, none⟩) 1 1)) (h ++ [Blk.own [.slice a l c]]) := by kernel_rfl
theorem without10_loop {lvv s8 : Value} {hb : Heap} {i k : Nat} (hB : slB lvv < n0 + 1) (hl : rvs.length < 60000) (hsl : ∀ rv ∈ rvs, ∃ a l c, rv = Value.slice a l c) (SR : Sl hh 1 eV lvv rvs) (hn : n0 = hh.length) : ∀ (m j : Nat) (g : Heap) (acc : Value) (xs : List Value), j + m = rvs.length → Old n0 hh g → SlO g n0 1 eV acc xs → xs ++ wo i k j (rvs.drop j) = wo i k 0 rvs →
    ∃ v' h', J74_0 C ⟨0, n⟩ hb ((Value.int .i64 ((i : Int)))) ((Value.int .i64 ((k : Int)))) s8 acc lvv ((Value.int .i64 ((rvs.length : Int)))) ((Value.int .i64 ((j : Int)))) g = some (v', h') ∧ SlO h' n0 1 eV v' (wo i k 0 rvs) ∧ Old n0 hh h' := by
  intro m
  induction m with
  | zero =>
    intro j g acc xs hj O SO e
    obtain rfl : j = rvs.length := by omega
    rw [List.drop_length] at e
    simp only [wo, List.append_nil] at e
    subst e
    refine ⟨acc, g, ?_, SO, O⟩
    rw [J74_0_step]
    unfold Jr74_0
    simp only [go_sem, Nat.reduceAdd, Nat.reduceLeDiff, Nat.reduceMul, Int.reduceBEq, Int.reduceBNe, Int.reduceLT, Int.reduceLE, Int.reduceGT, aBin_lss, Int.lt_irrefl, Jk74_0]
  | succ m ih =>
    intro j g acc xs hj O SO e
    have hlt : (j : Int) < (rvs.length : Int) := by omega
    have w : IntKind.wrap .i64 ((j : Int) + 1) = ((j + 1 : Nat) : Int) := by rw [wi (by omega) (by omega)]; rfl
    have hd : rvs.drop j = rvs[j]'(by omega) :: rvs.drop (j + 1) := List.drop_eq_getElem_cons (by omega)
    have hv : rvs[j]? = some (rvs[j]'(by omega)) := List.getElem?_eq_getElem (by omega)
    generalize rvs[j]'(by omega) = rv at hd hv
    have ol := O.len
    have S1 : Sl g 1 eV lvv rvs := SR.heap fun hl => O.old _ (by omega)
    obtain ⟨ix, rx⟩ := Sl.getV S1 hv
    rw [hd, wo] at e
    rw [J74_0_step]
    unfold Jr74_0
    by_cases c1 : j = i
    · subst c1
      rw [if_pos (.inl rfl)] at e
      have b1 : ((j : Int) != (j : Int)) = false := by simp
      obtain ⟨v', h', e', S', O'⟩ := ih (j + 1) g acc xs (by omega) O SO e
      refine ⟨v', h', ?_, S', O'⟩
      simp only [go_sem, Nat.reduceAdd, Nat.reduceLeDiff, Nat.reduceMul, Int.reduceBEq, Int.reduceBNe, Int.reduceLT, Int.reduceLE, Int.reduceGT, aBin_lss, hlt, ixSV_p, ix, rx, aBin_neq, b1, aBin_add, w]
      exact e'
    · have b1 : ((j : Int) != (i : Int)) = true := by rw [bne_iff_ne]; omega
      by_cases c2 : j = k
      · subst c2
        rw [if_pos (.inr rfl)] at e
        have b2 : ((j : Int) != (j : Int)) = false := by simp
        obtain ⟨v', h', e', S', O'⟩ := ih (j + 1) g acc xs (by omega) O SO e
        refine ⟨v', h', ?_, S', O'⟩
        simp only [go_sem, Nat.reduceAdd, Nat.reduceLeDiff, Nat.reduceMul, Int.reduceBEq, Int.reduceBNe, Int.reduceLT, Int.reduceLE, Int.reduceGT, aBin_lss, hlt, ixSV_p, ix, rx, aBin_neq, b1, b2, aBin_add, w]
        exact e'
      · have b2 : ((j : Int) != (k : Int)) = true := by rw [bne_iff_ne]; omega
        rw [if_neg (by omega)] at e
        have hxl : xs.length ≤ rvs.length := by
          have := congrArg List.length e
          have := (wo_sub i k rvs 0).length_le
          simp at *; omega
        obtain ⟨a', l', c', rfl⟩ := hsl rv (List.mem_of_getElem? hv)
        obtain ⟨v1, h1, ea, S1', l1, f1⟩ := append_own2 (md := ⟨0, n⟩) (ys := [Value.slice a' l' c']) tRows10 SO (Nat.zero_le _) (by omega) (cs := [Value.slice a' l' c']) (by simp [flat]) (by simp) rfl (by simp; omega)
        simp only [List.length_cons, List.length_nil, Nat.zero_add] at ea
        obtain ⟨v', h', e', S', O'⟩ := ih (j + 1) h1 v1 (xs ++ [Value.slice a' l' c']) (by omega) ⟨by omega, fun y hy => by
          rw [f1 y (by omega) (SO.own.imp id fun q => by omega)]; exact O.old y hy⟩ (S1'.mono (by omega)) (by rw [← e]; simp)
        refine ⟨v', h', ?_, S', O'⟩
        simp only [go_sem, Nat.reduceAdd, Nat.reduceLeDiff, Nat.reduceMul, Int.reduceBEq, Int.reduceBNe, Int.reduceLT, Int.reduceLE, Int.reduceGT, aBin_lss, hlt, ixSV_p, ix, rx, aBin_neq, b1, b2, bRows10, ea, aBin_add, w]
        exact e'
theorem without_s10 {lvv : Value} {i k : Nat} (hq : h[q]? = some (.own (pC V S T a RW LK))) (XR : Sl h 1 eV RW lvs) (hlv : lvs[lv]? = some lvv) (X : LR h lvv rvs rs) (hrs : rs.length < 20000) :
    ∃ v' h', C ⟨0, n⟩ 74 [(Value.pointer (some ⟨q, 0, none⟩)), (Value.int .i64 ((lv : Int))), (Value.int .i64 ((i : Int))), (Value.int .i64 ((k : Int)))] h = some (v', h') ∧ SlO h' h.length 1 eV v' (wo i k 0 rvs) ∧ Old h.length h h' := by
  have rR := pRW hq
  obtain ⟨ix, rx⟩ := Sl.getV XR hlv
  have len := fun {α : Type} (kk : Value → Option α) => X.sl.len kk
  have hrl := X.len
  obtain ⟨v', h', e, S', O'⟩ := without10_loop (n := n) (hb := h) (hh := h) (n0 := h.length) (s8 := .slice none 0 0) (i := i) (k := k) (Sl.slB_le X.sl) (by omega) (fun rv hrv => by
    obtain ⟨j, hj⟩ := List.mem_iff_getElem?.1 hrv
    obtain ⟨r', hr'⟩ : ∃ r', rs[j]? = some r' := ⟨rs[j]'(by have := (List.getElem?_eq_some_iff.1 hj).1; omega), List.getElem?_eq_getElem _⟩
    exact Sl.sliceV (X.f2.get j rv r' hj hr')) X.sl rfl rvs.length 0 h (.slice none 0 0) [] (by omega) (Old.refl _ _) (SlO.nil _ _ eV_len) (by simp)
  refine ⟨v', h', ?_, S', O'⟩
  rw [C, call_eq, F74_eq]
  unfold F74
  simp only [go_sem, Nat.reduceAdd, Nat.reduceLeDiff, Nat.reduceMul, Int.reduceBEq, Int.reduceBNe, Int.reduceLT, Int.reduceLE, Int.reduceGT, okNil, okP_p, rR, ix, rx, len]
  exact e
end Go.Det.E
