/- Blocks, lists of one's own, what a store leaves: no program in sight. -/
import Derived.Test.YtbliaopehpcpbaaDoorDetU
import Derived.Test.YtbliaopehpcpbaaDoorDetV
import Derived.Test.YtbliaopehpcpbaaDoorDetW
import Derived.Test.YtbliaopehpcpbaaDoorDetY
set_option autoImplicit false
set_option linter.unusedVariables false
set_option linter.unusedSimpArgs false
namespace Go.Det
theorem rd_own {h : Heap} {b i : Nat} {cs : List Value} (hb : h[b]? = some (.own cs)) : rd h b i = cs[i]? := by unfold rd; rw [hb]; rfl
theorem rdN_own {h : Heap} {b i n : Nat} {cs : List Value} (hb : h[b]? = some (.own cs)) (hi : i + n ≤ cs.length) : rdN h b i n = some ((cs.drop i).take n) := by unfold rdN; rw [hb]; exact if_pos hi
theorem wr_own {md : Md} {h : Heap} {b i : Nat} {cs : List Value} {v : Value} (hb : h[b]? = some (.own cs)) (hro : md.ro ≤ b) (hs : scalar v = true) (hi : i < cs.length) : wrN md h b i [v] = some (h.set b (.own (cs.set i v))) := by
  unfold wrN
  rw [hb]
  simp only []
  rw [if_pos (by simp only [List.length_cons, List.length_nil]; omega), if_pos ⟨hro, .inr (by simp [hs])⟩]
  rfl
theorem take_same {h : Heap} {n : Nat} (hn : h.length ≤ n) : h.take n = h := List.take_of_length_le hn
theorem set_here {h : Heap} {b : Nat} {k k' : Blk} (hb : h[b]? = some k) : (h.set b k')[b]? = some k' := by
  rw [List.getElem?_set_self (List.getElem?_eq_some_iff.1 hb).1]
theorem set_else {h : Heap} {a b : Nat} {k' : Blk} (hab : a ≠ b) : (h.set a k')[b]? = h[b]? := List.getElem?_set_ne hab
theorem lt_of {h : Heap} {b : Nat} {k : Blk} (hb : h[b]? = some k) : b < h.length := (List.getElem?_eq_some_iff.1 hb).1
/-- Only two blocks may be others now. -/
structure Only (a b : Nat) (h h' : Heap) : Prop where
  len : h'.length = h.length
  oth : ∀ x, x ≠ a → x ≠ b → h'[x]? = h[x]?
theorem Only.one {h : Heap} {a b : Nat} (k : Blk) : Only a b h (h.set a k) := ⟨by simp, fun x hx _ => set_else (Ne.symm hx)⟩
theorem Only.two {h : Heap} {a b : Nat} (k k' : Blk) : Only a b h ((h.set a k).set b k') := ⟨by simp, fun x hx hy => by rw [set_else (Ne.symm hy), set_else (Ne.symm hx)]⟩
theorem Only.refl {h : Heap} {a b : Nat} : Only a b h h := ⟨rfl, fun _ _ _ => rfl⟩
theorem Only.trans {h h' h'' : Heap} {a b : Nat} (x : Only a b h h') (y : Only a b h' h'') : Only a b h h'' := ⟨y.len.trans x.len, fun z h1 h2 => (y.oth z h1 h2).trans (x.oth z h1 h2)⟩
theorem Only.take {h bs h' : Heap} {a b : Nat} (o : Only a b (h ++ bs) h') : Only a b h (h'.take h.length) := by
  have hl := o.len
  simp at hl
  refine ⟨by simp; omega, fun x h1 h2 => ?_⟩
  rw [List.getElem?_take]
  split
  · rename_i hx; rw [o.oth x h1 h2, List.getElem?_append_left hx]
  · rw [List.getElem?_eq_none (by omega)]
theorem Only.new {h bs h' : Heap} {a b : Nat} (o : Only a b (h ++ bs) h') (ha : a < h.length) (hb : b < h.length) (k : Nat) : h'[h.length + k]? = bs[k]? := by
  rw [o.oth _ (by omega) (by omega), List.getElem?_append_right (by omega), Nat.add_sub_cancel_left]
theorem Only.old {h h' : Heap} {a b n : Nat} (o : Only a b h h') (ha : n ≤ a) (hb : n ≤ b) : Old n h h' := ⟨by rw [o.len]; exact Nat.le_refl _, fun x hx => o.oth x (by omega) (by omega)⟩
/-- Of old blocks two alone may be others; there may be new ones. -/
structure OG (a b : Nat) (h h' : Heap) : Prop where
  len : h.length ≤ h'.length
  oth : ∀ x, x < h.length → x ≠ a → x ≠ b → h'[x]? = h[x]?
theorem OG.refl {a b : Nat} {h : Heap} : OG a b h h := ⟨Nat.le_refl _, fun _ _ _ _ => rfl⟩
theorem OG.app {a b : Nat} {h h' : Heap} (o : OG a b h h') (bs : Heap) : OG a b h (h' ++ bs) :=
  ⟨by simp; have := o.len; omega, fun x h1 h2 h3 => by rw [List.getElem?_append_left (by have := o.len; omega)]; exact o.oth x h1 h2 h3⟩
theorem OG.only {a b : Nat} {h h' h'' : Heap} (o : OG a b h h') (p : Only a b h' h'') : OG a b h h'' :=
  ⟨by rw [p.len]; exact o.len, fun x h1 h2 h3 => (p.oth x h2 h3).trans (o.oth x h1 h2 h3)⟩
theorem OG.trans {a b : Nat} {h h' h'' : Heap} (o : OG a b h h') (p : OG a b h' h'') : OG a b h h'' :=
  ⟨Nat.le_trans o.len p.len, fun x h1 h2 h3 => (p.oth x (Nat.lt_of_lt_of_le h1 o.len) h2 h3).trans (o.oth x h1 h2 h3)⟩
theorem OG.done {a b : Nat} {h h' : Heap} (o : OG a b h h') : Only a b h (h'.take h.length) := by
  refine ⟨by rw [List.length_take]; exact Nat.min_eq_left o.len, fun x h1 h2 => ?_⟩
  rw [List.getElem?_take]
  split
  · rename_i hx; exact o.oth x hx h1 h2
  · rw [List.getElem?_eq_none (by omega)]
/-- What a store into a block leaves. -/
theorem put_e {md : Md} {h : Heap} {b : Nat} {cs : List Value} (hb : h[b]? = some (.own cs)) (hro : md.ro ≤ b) (i : Nat) (vs cs' : List Value) (hs : vs.all scalar = true) (hi : i + vs.length ≤ cs.length) (e : lay cs i vs = cs') :
    ∃ h', wrN md h b i vs = some h' ∧ h'[b]? = some (.own cs') ∧ h'.length = h.length ∧ ∀ x, x ≠ b → h'[x]? = h[x]? := by
  refine ⟨h.set b (.own cs'), ?_, set_here hb, by simp, fun x hx => set_else (Ne.symm hx)⟩
  unfold wrN
  rw [hb]
  simp only []
  rw [if_pos hi, if_pos ⟨hro, .inr hs⟩, e]
variable {P : Program} {ε : Type}
/-- More things appended: the new list is in a new block; the old list's block is gone, the others are as they were. -/
theorem append_own2 {md : Md} {h : Heap} {n0 sz bytes : Nat} {enc : ε → List Value} {s : Value} {xs ys : List ε} {ty e : TypeId} {z cs : List Value} (T : SlT P ty e sz bytes z) (S : SlO h n0 sz enc s xs) (hro : md.ro ≤ n0) (hn0 : n0 ≤ h.length)
    (hcs : cs = flat enc ys) (hys : 0 < ys.length) (hcell : cs.all isCell = true) (hlen : (xs.length + ys.length) * bytes ≤ 140737488355328) :
    ∃ v' h', (∀ {α : Type} (k : Value → Heap → Option α), aBuiltin P md .append #[ty, ty] [s, .slice (some ⟨h.length, 0, none⟩) ys.length sz] (h ++ [.own cs]) k = k v' h') ∧ SlO h' h.length sz enc v' (xs ++ ys) ∧ h.length < h'.length ∧
      ∀ x, x < h.length → (s = .slice none 0 0 ∨ x ≠ slB s) → h'[x]? = h[x]? := by
  have he := S.sl.he
  have hl : cs.length = ys.length * sz := by rw [hcs, flat_len he]
  have hrd : rdN (h ++ [Blk.own cs]) h.length 0 (ys.length * sz) = some cs := by
    rw [rdN_new0, rdN_zero]
    simp [Blk.cells, hl, List.take_of_length_le]
  have new : ∀ (h1 : Heap) (l : List Value), h.length ≤ h1.length → l = flat enc (xs ++ ys) → SlO (h1 ++ [.own l]) h.length sz enc (.slice (some ⟨h1.length, 0, none⟩) (xs.length + ys.length) sz) (xs ++ ys) := by
    intro h1 l hn hl
    have hb : (h1 ++ [Blk.own l])[h1.length]? = some (.own l) := by simp
    exact ⟨Sl.whole he hb hl (by simp), .inr ⟨hn, l, hb⟩⟩
  obtain ⟨j, hj, e1, e2⟩ := T.info
  rcases S.sl.is with ⟨rfl, rfl⟩ | ⟨b, o, kk, rfl, hb, hc, hl2⟩
  · refine ⟨.slice (some ⟨(h ++ [Blk.own cs]).length, 0, none⟩) ys.length sz, (h ++ [Blk.own cs]) ++ [.own cs], fun k => ?_, ?_, by simp, fun x hx _ => ?_⟩
    · simp only [aBuiltin]
      unfold aAppend
      simp only [T.hu, hj, T.hz, e1, e2, srcCells, hrd]
      rw [if_pos ⟨T.hs, T.hl, T.hb⟩, if_neg (by omega), if_pos ⟨by simpa using hlen, hcell⟩, if_pos (by simp)]
    · have := new (h ++ [Blk.own cs]) cs (by simp) (by simpa using hcs)
      simpa using this
    · rw [List.getElem?_append_left (by simp; omega), List.getElem?_append_left hx]
  · obtain ⟨hn, cs0, hown⟩ := S.own.resolve_left (by simp)
    have hbl : b < h.length := (List.getElem?_eq_some_iff.1 hb).1
    simp only [slB] at hn hown
    have hk : kk = .own cs0 := by rw [hb] at hown; exact Option.some.inj hown
    subst hk
    have hb' : (h ++ [Blk.own cs])[b]? = some (.own cs0) := by rw [List.getElem?_append_left hbl]; exact hb
    simp only [Blk.cells] at hc hl2
    refine ⟨.slice (some ⟨(h ++ [Blk.own cs]).length, 0, none⟩) (xs.length + ys.length) sz, (h ++ [Blk.own cs]).set b .dead ++ [.own ((cs0.drop o).take (xs.length * sz) ++ cs)], fun k => ?_, ?_, by simp; omega, fun x hx hxb => ?_⟩
    · exact append_p T hb' hl2 (by omega) hys hrd hcell hlen k
    · have := new ((h ++ [Blk.own cs]).set b .dead) ((cs0.drop o).take (xs.length * sz) ++ cs) (by simp) (by rw [hc, hcs, flat_app])
      simpa using this
    · have hne : b ≠ x := by
        rcases hxb with hq | hq
        · cases hq
        · exact fun e => hq (by simp [slB, e])
      rw [List.getElem?_append_left (by simp; omega), List.getElem?_set_ne hne, List.getElem?_append_left hx]
/-- A list of its own of one thing, and another list's things behind it. -/
theorem append_sl2 {md : Md} {h : Heap} {sz bytes : Nat} {enc : ε → List Value} {x : Value} {y : ε} {ys : List ε} {ty e : TypeId} {z : List Value} (T : SlT P ty e sz bytes z) (X : Sl h sz enc x ys) (he : ∀ x, (enc x).length = sz) (hro : md.ro ≤ h.length)
    (hcell : ∀ x, (enc x).all isCell = true) (hlen : (1 + ys.length) * bytes ≤ 140737488355328) :
    ∃ v' h', (∀ {α : Type} (k : Value → Heap → Option α), aBuiltin P md .append #[ty, ty] [.slice (some ⟨h.length, 0, none⟩) 1 sz, x] (h ++ [.own (enc y)]) k = k v' h') ∧ SlO h' h.length sz enc v' (y :: ys) ∧ h.length < h'.length ∧
      ∀ b, b < h.length → h'[b]? = h[b]? := by
  have hb : (h ++ [Blk.own (enc y)])[h.length]? = some (.own (enc y)) := by simp
  have S : SlO (h ++ [Blk.own (enc y)]) h.length sz enc (.slice (some ⟨h.length, 0, none⟩) 1 sz) [y] := ⟨Sl.whole he hb (by simp [Blk.cells, flat]) (by simp), .inr ⟨Nat.le_refl _, _, hb⟩⟩
  obtain ⟨v', h', e', S', O'⟩ := append_sl (md := md) (n0 := h.length) T S X.app hro (by simp) hcell (by simpa using hlen)
  have hl := O'.len
  simp at hl
  exact ⟨v', h', e', S', by omega, fun b hb => (O'.old b hb).trans (List.getElem?_append_left hb)⟩
theorem SlO.at {h h' : Heap} {n0 sz : Nat} {enc : ε → List Value} {v : Value} {xs : List ε} (S : SlO h n0 sz enc v xs) (f : ∀ x, n0 ≤ x → x < h.length → h'[x]? = h[x]?) : SlO h' n0 sz enc v xs := by
  rcases S.own with e | ⟨q1, cs, q2⟩
  · subst e
    rcases S.sl.is with ⟨_, rfl⟩ | ⟨_, _, _, e2, _⟩
    · exact SlO.nil _ _ S.sl.he
    · cases e2
  · exact ⟨S.sl.heap fun hl => f _ q1 hl, .inr ⟨q1, cs, by rw [f _ q1 (lt_of q2)]; exact q2⟩⟩
theorem SlO.keep {h h' : Heap} {n0 sz : Nat} {enc : ε → List Value} {v : Value} {xs : List ε} (S : SlO h n0 sz enc v xs) (f : v = .slice none 0 0 ∨ h'[slB v]? = h[slB v]?) : SlO h' n0 sz enc v xs := by
  rcases S.own with e | ⟨q1, cs, q2⟩
  · subst e
    rcases S.sl.is with ⟨_, rfl⟩ | ⟨_, _, _, e2, _⟩
    · exact SlO.nil _ _ S.sl.he
    · cases e2
  · rcases f with e | f
    · subst e
      rcases S.sl.is with ⟨_, rfl⟩ | ⟨_, _, _, e2, _⟩
      · exact SlO.nil _ _ S.sl.he
      · cases e2
    · exact ⟨S.sl.heap fun _ => f, .inr ⟨q1, cs, by rw [f]; exact q2⟩⟩
theorem SlO.lo {h : Heap} {n0 sz : Nat} {enc : ε → List Value} {v : Value} {xs : List ε} (S : SlO h n0 sz enc v xs) : v = .slice none 0 0 ∨ (n0 ≤ slB v ∧ slB v < h.length) := S.own.imp id fun ⟨h1, cs, h2⟩ => ⟨h1, lt_of h2⟩
theorem SlO.nil_of {h : Heap} {n0 sz : Nat} {enc : ε → List Value} {xs : List ε} (S : SlO h n0 sz enc (.slice none 0 0) xs) : xs = [] := by
  rcases S.sl.is with ⟨_, e⟩ | ⟨_, _, _, e2, _⟩
  · exact e
  · cases e2
/-- The things behind the first. -/
theorem SlO.tail {h : Heap} {n0 sz bytes : Nat} {enc : ε → List Value} {v : Value} {x : ε} {xs : List ε} {ty e : TypeId} {z : List Value} (T : SlT P ty e sz bytes z) (S : SlO h n0 sz enc v (x :: xs)) :
    ∃ v', (∀ {α : Type} (kk : Value → Option α), aSlice P ty v (some (.int .i64 1)) none none kk = kk v') ∧ SlO h n0 sz enc v' xs ∧ (v' = .slice none 0 0 ∨ slB v' = slB v) := by
  obtain ⟨v', e', S'⟩ := S.sl.suf T (k := 1) (by decide) (by simp; omega)
  have S'' : Sl h sz enc v' xs := by simpa using S'
  obtain ⟨j, hj, e1, e2⟩ := T.info
  rcases S.sl.is with ⟨_, q⟩ | ⟨b, o, kb, hv, hb, hc, hl2⟩
  · cases q
  · have hv' : v' = .slice (some ⟨b, o + 1 * sz, none⟩) xs.length sz := by
      have := e' (fun v => some v)
      rw [hv] at this
      unfold aSlice at this
      simp only [T.hu, hj] at this
      rw [if_pos ⟨by decide, by simp; omega, by omega, .inr e1.symm⟩] at this
      have hn : ((((x :: xs).length : Nat) : Int) - 1).toNat = xs.length := by simp
      rw [hn, e1] at this
      exact (Option.some.inj this).symm
    refine ⟨v', e', ⟨S'', .inr ?_⟩, .inr ?_⟩
    · obtain ⟨h1, cs, h2⟩ := S.own.resolve_left (by rw [hv]; simp)
      rw [hv] at h1 h2
      rw [hv']
      exact ⟨h1, cs, h2⟩
    · rw [hv, hv']; rfl
end Go.Det
