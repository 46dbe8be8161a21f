/- Cells that are seen as they were, or as they are: what its functions answer. -/
import Derived.Test.YtodeenahpoobkaaM2
import Derived.Test.YtodeenahpoobkaaWN
import Derived.Test.YtodeenahpoobkaaDetS
import Derived.Test.YtodeenahpoobkaaE3
import Derived.Laws.BitsAllLaws
set_option autoImplicit false
set_option linter.unusedVariables false
set_option linter.unusedSimpArgs false
namespace Go.Det.E
open Go.Proofs Go.Det
attribute [local congr] bind_c cond_c
variable {md : Md} {h : Heap} {a b : Nat} {l c : List Int} {V S T : Int}
/-- What a word means by its thread's state. -/
def mT (o n t g s : Int) : Int := bif decide (s < 33554432) then W.meansW o n t g (s / 2) (s % 2 == 1) else 0
def mW (v s : Int) : Int := bif W.rightB v then (bif v / 4294967296 % 256 == 0 then v % 65536 else mT (v / 65536 % 65536) (v % 65536) (v / 4294967296 % 256) (v / 1099511627776) s) else 0
end Go.Det.E
/- A look: its steps. -/
namespace Go.Det.E
open Go.Proofs Go.Det
attribute [local congr] bind_c cond_c
variable {md : Md} {h : Heap} {a b k : Nat} {l c : List Int} {V S T : Int}
/-- A look at its block. -/
abbrev lkC (V S T x o n t g : Int) (hf dn : Bool) (val : Int) : List Value := [(Value.int .i64 V), (Value.int .i64 S), (Value.int .i64 T), (Value.int .i64 x), (Value.int .i64 o), (Value.int .i64 n), (Value.int .i64 t), (Value.int .i64 g), (Value.bool hf), (Value.bool dn), (Value.int .i64 val)]
end Go.Det.E

/- The laws of the looks: what they begin with, and what a look tells. -/
namespace Go.Det.E
open Go.Proofs Go.Det
attribute [local congr] bind_c cond_c
theorem cells42 (md : Md) (h : Heap) : C md 52 [(Value.agg #[(Value.int .i64 2), (Value.int .i64 0), (Value.int .i64 8)])] h = some ((Value.int .i64 42), h) := free_ok 100 100 (by kernel_rfl) (by kernel_rfl) md h
theorem rt208 : Rt 2 0 8 := by decide
variable {md : Md} {h hh h' : Heap} {a b k bv bm bl bw br : Nat} {l c l' c' : List Int} {v s : Int}
/-- What the law of the looks has in its blocks. -/
structure LSt (h hh : Heap) (a b bv bm bl bw br : Nat) (v : Int) (l c : List Int) : Prop where
  A : Ar hh a b l c
  w : Wd l
  vw : 0 ≤ v ∧ v < 18446744073709551616
  hv : hh[bv]? = some (.own [(Value.int .u64 v)])
  hm : hh[bm]? = some (.own [(Value.pointer (some ⟨a, 0, none⟩))])
  hl : hh[bl]? = some (.own [(Value.int .i64 2), (Value.int .i64 0), (Value.int .i64 8)])
  hw : hh[bw]? = some (.own [(Value.int .i64 (v / 65536 % 65536)), (Value.int .i64 (v % 65536)), (Value.int .i64 (v / 4294967296 % 256)), (Value.int .i64 (v / 1099511627776))])
  hr : hh[br]? = some (.own [(Value.bool (W.rightB v))])
  g : h.length ≤ hh.length ∧ h.length ≤ a ∧ h.length ≤ b ∧ h.length ≤ bv ∧ h.length ≤ bm ∧ h.length ≤ bl ∧ h.length ≤ bw ∧ h.length ≤ br
  d : (bv ≠ a ∧ bv ≠ b) ∧ (bm ≠ a ∧ bm ≠ b) ∧ (bl ≠ a ∧ bl ≠ b) ∧ (bw ≠ a ∧ bw ≠ b) ∧ (br ≠ a ∧ br ≠ b)
theorem LSt.step (P : LSt h hh a b bv bm bl bw br v l c) (A : Ar h' a b l' c') (w : Wd l') (hlen : hh.length ≤ h'.length) (f : ∀ y, y < hh.length → y ≠ a → y ≠ b → h'[y]? = hh[y]?) : LSt h h' a b bv bm bl bw br v l' c' := by
  obtain ⟨d1, d2, d3, d4, d5⟩ := P.d
  exact ⟨A, w, P.vw, by rw [f _ (lt_of P.hv) d1.1 d1.2]; exact P.hv, by rw [f _ (lt_of P.hm) d2.1 d2.2]; exact P.hm, by rw [f _ (lt_of P.hl) d3.1 d3.2]; exact P.hl,
    by rw [f _ (lt_of P.hw) d4.1 d4.2]; exact P.hw, by rw [f _ (lt_of P.hr) d5.1 d5.2]; exact P.hr, ⟨Nat.le_trans P.g.1 hlen, P.g.2⟩, P.d⟩
theorem mW_any {s' : Int} (hd : W.rightB v = false ∨ (v / 4294967296 % 256 == 0) = true) : mW v s = mW v s' := by
  unfold mW
  rcases hd with e | e
  · rw [e]; rfl
  · rw [e]; rfl
theorem mW_none (hd : W.rightB v = false) : mW v s = 0 := by unfold mW; rw [hd]; rfl
theorem mW_plain (hd : W.rightB v = true) (ht : (v / 4294967296 % 256 == 0) = true) : mW v s = v % 65536 := by unfold mW; rw [hd, ht]; rfl
theorem mW_word (hd : W.rightB v = true) (ht : (v / 4294967296 % 256 == 0) = false) : mW v s = mT (v / 65536 % 65536) (v % 65536) (v / 4294967296 % 256) (v / 1099511627776) s := by unfold mW; rw [hd, ht]; rfl
theorem clV_f {α : Type} {rc : Rec} {md : Md} {f : FuncId} {fs cs : Array Value} {args : List Value} {h : Heap} {k : Value → Heap → Option α} : clV rc md (.func (.func f) fs cs) args h k = cl (rc md f (fs.toList ++ args ++ cs.toList) h) k := rfl
end Go.Det.E

/- A look tells what the document says that a cell means. -/
namespace Go.Det.E
open Go.Proofs Go.Det
attribute [local congr] bind_c cond_c
variable {md : Md} {h hh h' : Heap} {a b k bv bm bl bw br : Nat} {l c l' c' : List Int} {v s z : Int}
theorem LSt.step5 (P : LSt h hh a b bv bm bl bw br v l c) (A : Ar h' a b l' c') (w : Wd l') (hlen : hh.length ≤ h'.length) (f : ∀ y, y < hh.length → y ≠ a → y ≠ b → (y = bv ∨ y = bm ∨ y = bl ∨ y = bw ∨ y = br) → h'[y]? = hh[y]?) : LSt h h' a b bv bm bl bw br v l' c' := by
  obtain ⟨d1, d2, d3, d4, d5⟩ := P.d
  exact ⟨A, w, P.vw, by rw [f _ (lt_of P.hv) d1.1 d1.2 (by simp)]; exact P.hv, by rw [f _ (lt_of P.hm) d2.1 d2.2 (by simp)]; exact P.hm, by rw [f _ (lt_of P.hl) d3.1 d3.2 (by simp)]; exact P.hl,
    by rw [f _ (lt_of P.hw) d4.1 d4.2 (by simp)]; exact P.hw, by rw [f _ (lt_of P.hr) d5.1 d5.2 (by simp)]; exact P.hr, ⟨Nat.le_trans P.g.1 hlen, P.g.2⟩, P.d⟩
theorem uB : Try.prog.underlying 4 = some .bool := by kernel_rfl
theorem Sx8 {t : Int} (h0 : 0 < t) (h1 : t ≤ 8) : Sx 8 t = t - 1 := by
  unfold Sx
  have : Bl (t - 1) 8 = true := Bl_t.2 ⟨by omega, by omega⟩
  rw [this]; rfl
end Go.Det.E

/- What a pen does. -/
namespace Go.Det.E
open Go.Proofs Go.Det
attribute [local congr] bind_c cond_c
theorem W.bits_of {o n t g : Int} (hr : W.rightW o n t g = true) : 0 ≤ W.bitsW o n t g ∧ W.bitsW o n t g < 18446744073709551616 ∧ W.bitsW o n t g / 65536 % 65536 = o ∧ W.bitsW o n t g % 65536 = n ∧ W.bitsW o n t g / 4294967296 % 256 = t ∧ W.bitsW o n t g / 1099511627776 = g := by
  obtain ⟨ho, hn, ht, hg, _⟩ := W.rightW_iff.1 hr
  unfold W.bitsW
  omega
theorem W.bits_right {o n t g : Int} (hr : W.rightW o n t g = true) : W.rightB (W.bitsW o n t g) = true := by
  obtain ⟨_, _, e1, e2, e3, e4⟩ := W.bits_of hr
  unfold W.rightB
  rw [e1, e2, e3, e4]; exact hr
/-- Blocks that are there, and are none of the arena's. -/
def Bk (a b : Nat) (hh : Heap) (K : List (Nat × List Value)) : Prop := ∀ p ∈ K, hh[p.1]? = some (.own p.2) ∧ p.1 ≠ a ∧ p.1 ≠ b
variable {md : Md} {h hh h' : Heap} {a b : Nat} {l c : List Int} {V S T : Int} {K : List (Nat × List Value)}
theorem Bk.only (B : Bk a b hh K) (o : Only a b hh h') : Bk a b h' K := fun p hp => ⟨(o.oth _ (B p hp).2.1 (B p hp).2.2).trans (B p hp).1, (B p hp).2⟩
theorem Bk.app (B : Bk a b hh K) (bs : Heap) : Bk a b (hh ++ bs) K := fun p hp => ⟨by rw [List.getElem?_append_left (lt_of (B p hp).1)]; exact (B p hp).1, (B p hp).2⟩
theorem Bk.at (B : Bk a b hh K) {y : Nat} {cs : List Value} (hy : (y, cs) ∈ K) : hh[y]? = some (.own cs) := (B _ hy).1
theorem Bk.cons (B : Bk a b hh K) {y : Nat} {cs : List Value} (hy : hh[y]? = some (.own cs)) (h1 : y ≠ a) (h2 : y ≠ b) : Bk a b hh ((y, cs) :: K) := by
  intro p hp
  rcases List.mem_cons.1 hp with rfl | hp
  · exact ⟨hy, h1, h2⟩
  · exact B p hp
theorem cL_in {i : Int} (hi : inR l i) : cL l c i = up c 0 := if_pos hi
theorem cS_in {i : Int} (hi : inR l i) : cS l c i = up c 1 := if_pos hi
/-- What a change leaves. -/
def chL (l : List Int) (x o n t g : Int) : List Int := bif W.rightB (getI l x) && W.rightW o n t g then putI l x (W.bitsW o n t g) else l
def chC (l c : List Int) (x o n t g : Int) : List Int := bif W.rightB (getI l x) && W.rightW o n t g then cS l (cL l c x) x else cL l c x
theorem change_e (A : Ar h a b l c) (hro : md.ro ≤ a) (hrb : md.ro ≤ b) (hr : md.ro ≤ h.length) (w : Wd l) {x o n t g : Int} {cv : Value} {v : Int} (hv : getI l x = v)
    (H : W.rightB v = true → ∀ (m : Md) (hx : Heap) (kk : Value → Heap → Option (Value × Heap)), OG a b h hx → clV C m cv [(Value.agg #[(Value.int .i64 (v / 65536 % 65536)), (Value.int .i64 (v % 65536)), (Value.int .i64 (v / 4294967296 % 256)), (Value.int .i64 (v / 1099511627776))])] hx kk = kk ((Value.agg #[(Value.int .i64 o), (Value.int .i64 n), (Value.int .i64 t), (Value.int .i64 g)])) hx) :
    ∃ h', C md 95 [ifA a, (Value.int .i64 x), cv] h = some ((Value.tuple #[]), h') ∧ Ar h' a b (chL l x o n t g) (chC l c x o n t g) ∧ Only a b h h' := by
  have la := lt_of A.ha
  have lb := lt_of A.hb
  have vw := w.get x
  obtain ⟨h3, e3, A3, o3⟩ := pl_x (md := ⟨md.ro, h.length⟩) A hro x
  unfold chL chC
  rw [hv] at e3 vw ⊢
  have og : OG a b h h3 := OG.refl.only o3
  have l3 := o3.len
  have hr3 : md.ro ≤ h3.length := by omega
  have hl3 : h.length ≤ h3.length := by omega
  have up := fun (m : Md) (h : Heap) => W.unpack_s vw.1 vw.2 m h
  have st4 := fun (α : Type) (o n t g : Int) (h' : Heap) (kk : Heap → Option α) => st_N ⟨md.ro, h.length⟩ 4 h3.length 0 [(Value.int .i64 o), (Value.int .i64 n), (Value.int .i64 t), (Value.int .i64 g)] h' kk rfl rfl
  cases hr' : W.rightB v
  · simp only [hr', cond_false] at up
    refine ⟨(h3 ++ [Blk.own [(Value.int .i64 0), (Value.int .i64 0), (Value.int .i64 0), (Value.int .i64 0)]]).take h.length, ?_, (A3.app _).take la lb, (og.app _).done⟩
    rw [C, call_eq, F95_eq]
    unfold F95
    simp only [go_sem, Nat.reduceAdd, Nat.reduceLeDiff, Nat.reduceMul, Int.reduceBEq, Int.reduceBNe, Int.reduceLT, Int.reduceLE, Int.reduceGT, clI_load, e3, up, st4, hr3, hl3]
  · simp only [hr', cond_true] at up
    have H' := fun (m : Md) (kk : Value → Heap → Option (Value × Heap)) => H hr' m (h3 ++ [Blk.own [(Value.int .i64 (v / 65536 % 65536)), (Value.int .i64 (v % 65536)), (Value.int .i64 (v / 4294967296 % 256)), (Value.int .i64 (v / 1099511627776))]]) kk (og.app _)
    cases hp : W.rightW o n t g
    · have pk := fun (m : Md) (h : Heap) => W.pack_s m o n t g h
      simp only [hp, cond_false] at pk
      refine ⟨(h3 ++ [Blk.own [(Value.int .i64 (v / 65536 % 65536)), (Value.int .i64 (v % 65536)), (Value.int .i64 (v / 4294967296 % 256)), (Value.int .i64 (v / 1099511627776))]]).take h.length, ?_, (A3.app _).take la lb, (og.app _).done⟩
      rw [C, call_eq, F95_eq]
      unfold F95
      simp only [go_sem, Nat.reduceAdd, Nat.reduceLeDiff, Nat.reduceMul, Int.reduceBEq, Int.reduceBNe, Int.reduceLT, Int.reduceLE, Int.reduceGT, clI_load, e3, up, st4, hr3, hl3, H', pk]
    · have pk := fun (m : Md) (h : Heap) => W.pack_s m o n t g h
      simp only [hp, cond_true] at pk
      obtain ⟨h5, e5, A5, o5⟩ := ps_x (md := ⟨md.ro, h.length⟩) (A3.app [Blk.own [(Value.int .i64 (v / 65536 % 65536)), (Value.int .i64 (v % 65536)), (Value.int .i64 (v / 4294967296 % 256)), (Value.int .i64 (v / 1099511627776))]]) hro hrb x (W.bitsW o n t g)
      refine ⟨h5.take h.length, ?_, A5.take la lb, ((og.app _).only o5).done⟩
      rw [C, call_eq, F95_eq]
      unfold F95
      simp only [go_sem, Nat.reduceAdd, Nat.reduceLeDiff, Nat.reduceMul, Int.reduceBEq, Int.reduceBNe, Int.reduceLT, Int.reduceLE, Int.reduceGT, clI_load, e3, up, st4, hr3, hl3, H', pk, clI_store, e5]
/-- What a pen's write makes of the old number. -/
def olW (th tag v : Int) : Int := bif v / 4294967296 % 256 != th || v / 1099511627776 != tag then v % 65536 else v / 65536 % 65536
theorem wcl_s {th tag y v : Int} {bp bx : Nat} (hp : hh[bp]? = some (.own [(Value.int .i64 th), (Value.int .i64 tag)])) (hx : hh[bx]? = some (.own [(Value.int .i64 y)])) (md : Md) :
    C md 96 [(Value.agg #[(Value.int .i64 (v / 65536 % 65536)), (Value.int .i64 (v % 65536)), (Value.int .i64 (v / 4294967296 % 256)), (Value.int .i64 (v / 1099511627776))]), (Value.pointer (some ⟨bp, 0, none⟩)), (Value.pointer (some ⟨bx, 0, none⟩))] hh = some ((Value.agg #[(Value.int .i64 (olW th tag v)), (Value.int .i64 y), (Value.int .i64 th), (Value.int .i64 tag)]), hh) := by
  have lp := lt_of hp
  have lx := lt_of hx
  have r : ∀ hx : Heap, hx[bp]? = some (.own [(Value.int .i64 th), (Value.int .i64 tag)]) → rd hx bp 0 = some ((Value.int .i64 th)) ∧ rd hx bp 1 = some ((Value.int .i64 tag)) := fun hx e => ⟨by rw [rd_own e]; rfl, by rw [rd_own e]; rfl⟩
  have q : ∀ hq : Heap, hq[bx]? = some (.own [(Value.int .i64 y)]) → rd hq bx 0 = some ((Value.int .i64 y)) := fun hq e => by rw [rd_own e]; rfl
  have a1 : ∀ bs : Heap, rd (hh ++ bs) bp 0 = some ((Value.int .i64 th)) ∧ rd (hh ++ bs) bp 1 = some ((Value.int .i64 tag)) := fun bs => r _ (by rw [List.getElem?_append_left lp]; exact hp)
  have a2 : ∀ bs : Heap, rd (hh ++ bs) bx 0 = some ((Value.int .i64 y)) := fun bs => q _ (by rw [List.getElem?_append_left lx]; exact hx)
  have b1 := fun bs => (a1 bs).1
  have b2 := fun bs => (a1 bs).2
  have st4 := fun (α : Type) (m : Md) (b : Nat) (o n t g : Int) (h' : Heap) (kk : Heap → Option α) => st_N m 4 b 0 [(Value.int .i64 o), (Value.int .i64 n), (Value.int .i64 t), (Value.int .i64 g)] h' kk rfl rfl
  rw [C, call_eq, F96_eq]
  unfold F96 olW
  cases h1 : (v / 4294967296 % 256 != th)
  · cases h2 : (v / 1099511627776 != tag)
    · simp only [go_sem, Nat.reduceAdd, Nat.reduceLeDiff, Nat.reduceMul, Int.reduceBEq, Int.reduceBNe, Int.reduceLT, Int.reduceLE, Int.reduceGT, b1, b2, a2, h1, h2, aBin_neq, J96_0, st4]
    · simp only [go_sem, Nat.reduceAdd, Nat.reduceLeDiff, Nat.reduceMul, Int.reduceBEq, Int.reduceBNe, Int.reduceLT, Int.reduceLE, Int.reduceGT, b1, b2, a2, h1, h2, aBin_neq, J96_0, st4]
  · simp only [go_sem, Nat.reduceAdd, Nat.reduceLeDiff, Nat.reduceMul, Int.reduceBEq, Int.reduceBNe, Int.reduceLT, Int.reduceLE, Int.reduceGT, b1, b2, a2, h1, aBin_neq, J96_0, st4]
theorem write_e (A : Ar h a b l c) (hro : md.ro ≤ a) (hrb : md.ro ≤ b) (hr : md.ro ≤ h.length) (w : Wd l) {x y th tag : Int} {v : Int} (hv : getI l x = v) :
    ∃ h', C md 88 [(Value.agg #[(Value.int .i64 th), (Value.int .i64 tag)]), ifA a, (Value.int .i64 x), (Value.int .i64 y)] h = some ((Value.tuple #[]), h') ∧ Ar h' a b (chL l x (olW th tag v) y th tag) (chC l c x (olW th tag v) y th tag) ∧ Only a b h h' := by
  have la := lt_of A.ha
  have lb := lt_of A.hb
  obtain ⟨h3, e3, A3, o3⟩ := change_e (md := ⟨md.ro, h.length⟩) (A.app [Blk.own [(Value.int .i64 th), (Value.int .i64 tag)], Blk.own [(Value.int .i64 y)]]) hro hrb (by simp; omega) w (o := olW th tag v) (n := y) (t := th) (g := tag) (cv := .func (.func 96) #[] #[(Value.pointer (some ⟨h.length, 0, none⟩)), (Value.pointer (some ⟨h.length + 1, 0, none⟩))]) hv
    (by
      intro hr' m hx kk og
      have b1 : hx[h.length]? = some (.own [(Value.int .i64 th), (Value.int .i64 tag)]) := by rw [og.oth _ (by simp) (by omega) (by omega)]; simp
      have b2 : hx[h.length + 1]? = some (.own [(Value.int .i64 y)]) := by rw [og.oth _ (by simp) (by omega) (by omega), List.getElem?_append_right (by omega), Nat.add_sub_cancel_left]; rfl
      have e := wcl_s (v := v) b1 b2 m
      rw [clV_f]
      simp only [go_sem, Nat.reduceAdd, Nat.reduceLeDiff, Nat.reduceMul, Int.reduceBEq, Int.reduceBNe, Int.reduceLT, Int.reduceLE, Int.reduceGT, e])
  refine ⟨h3.take h.length, ?_, A3.take la lb, o3.take⟩
  rw [C, call_eq, F88_eq]
  unfold F88
  simp only [go_sem, Nat.reduceAdd, Nat.reduceLeDiff, Nat.reduceMul, Int.reduceBEq, Int.reduceBNe, Int.reduceLT, Int.reduceLE, Int.reduceGT, e3]
/-- What a thread's state leaves. -/
def snL (l : List Int) (x tag : Int) (d : Bool) : List Int := bif W.inW tag 16777215 then putI l x (W.stW tag d) else l
def snC (l c : List Int) (x tag : Int) : List Int := bif W.inW tag 16777215 then cS l c x else c
end Go.Det.E

/- Free slots, taken and given by steps: what its functions answer. -/
namespace Go.Det.E
open Go.Proofs Go.Det
attribute [local congr] bind_c cond_c
variable {md : Md} {h hh h' : Heap} {a b k : Nat} {l c : List Int} {V S T : Int}
theorem and16 {v : Int} (h0 : 0 ≤ v) (h1 : v < 18446744073709551616) : bAnd .u64 v 65535 = v % 65536 := by
  obtain ⟨x, rfl⟩ := Int.eq_ofNat_of_zero_le h0
  refine Eq.trans (bits_and_u64_nat x 65535 (by omega) (by decide)) ?_
  rw [show (65535 : Nat) = 2 ^ 16 - 1 from rfl, Nat.and_two_pow_sub_one_eq_mod]
  show ((x % 65536 : Nat) : Int) = (x : Int) % 65536
  omega
theorem nand16 (x : Nat) (hx : x < 2 ^ 64) : x &&& 18446744073709486080 = x / 65536 * 65536 := by
  have e : (18446744073709486080 : Nat) = (2 ^ 48 - 1) <<< 16 := by decide
  have e2 : x / 65536 * 65536 = (x >>> 16) <<< 16 := by rw [Nat.shiftLeft_eq, Nat.shiftRight_eq_div_pow]
  rw [e, e2]
  apply Nat.eq_of_testBit_eq
  intro i
  rw [Nat.testBit_and, Nat.testBit_shiftLeft, Nat.testBit_two_pow_sub_one, Nat.testBit_shiftLeft, Nat.testBit_shiftRight]
  by_cases hi : 16 ≤ i
  · rw [show 16 + (i - 16) = i by omega]
    by_cases h64 : i < 64
    · simp [hi, show i - 16 < 48 by omega]
    · have : x.testBit i = false := Nat.testBit_lt_two_pow (Nat.lt_of_lt_of_le hx (Nat.pow_le_pow_right (by decide) (by omega)))
      simp [this]
  · simp [hi]
theorem nand {v : Int} (h0 : 0 ≤ v) (h1 : v < 18446744073709551616) : bAndNot .u64 v 65535 = v / 65536 * 65536 := by
  obtain ⟨x, rfl⟩ := Int.eq_ofNat_of_zero_le h0
  refine Eq.trans (u64_andNot_nat x 65535 (by omega) (by decide)) ?_
  rw [show (18446744073709551615 : Nat) - 65535 = 18446744073709486080 from rfl, nand16 x (by omega)]
  show ((x / 65536 * 65536 : Nat) : Int) = (x : Int) / 65536 * 65536
  omega
/-- A head with another slot, a tag on. -/
def withW (hd nx : Int) : Int := (hd / 65536 * 65536 + 65536) % 18446744073709551616 + nx % 65536
theorem withW_in (hd nx : Int) : 0 ≤ withW hd nx ∧ withW hd nx < 18446744073709551616 := by unfold withW; omega
theorem withW_first {hd nx : Int} : withW hd nx % 65536 = nx % 65536 := by unfold withW; omega
/-- A program that takes, at its block. -/
abbrev tkC (V S T at' hd nx : Int) : List Value := [(Value.int .i64 V), (Value.int .i64 S), (Value.int .i64 T), (Value.int .i64 at'), (Value.int .u64 hd), (Value.int .u64 nx)]
abbrev gvC (V S T slot at' hd : Int) : List Value := [(Value.int .i64 V), (Value.int .i64 S), (Value.int .i64 T), (Value.int .i64 slot), (Value.int .i64 at'), (Value.int .u64 hd)]
end Go.Det.E

/- Free slots: memory at first, the row of the free ones, and lists of whole numbers. -/
namespace Go.Det.E
open Go.Proofs Go.Det
attribute [local congr] bind_c cond_c
variable {md : Md} {h hh h' : Heap} {a b k : Nat} {l c : List Int} {V T : Int} {n : Nat}
theorem tInts : SlT Try.prog 44 3 1 8 [(Value.int .i64 0)] := ⟨by kernel_rfl, by kernel_rfl, by kernel_rfl, rfl, by decide, by decide, rfl⟩
abbrev encI (x : Int) : List Value := [(Value.int .i64 x)]
theorem encI_len (x : Int) : (encI x).length = 1 := rfl
theorem encI_cell (x : Int) : (encI x).all isCell = true := rfl
theorem bInts1 {α : Type} {x : Int} (h : Heap) (k : Value → Heap → Option α) : aBuildSlice Try.prog 44 1 [(0, (Value.int .i64 x))] h k = k ((Value.slice (some ⟨h.length, 0, none⟩) 1 1)) (h ++ [Blk.own [(Value.int .i64 x)]]) := by kernel_rfl
theorem cIU {α : Type} {x : Int} (k : Value → Option α) : aConv Try.prog 3 103 ((Value.int .i64 x)) k = k ((Value.int .u64 (IntKind.wrap .u64 x))) := aConv_int W.u3 W.u24
theorem cUI {α : Type} {x : Int} (k : Value → Option α) : aConv Try.prog 103 3 ((Value.int .u64 x)) k = k ((Value.int .i64 (IntKind.wrap .i64 x))) := aConv_int W.u24 W.u3
/-- The cell of a slot's next one. -/
theorem Ox_in {S T s : Int} (h0 : 0 ≤ s) (h1 : s < S) : Ox S T s 0 = T + 1 + s * 7 := by
  unfold Ox; rw [Bl_t.2 ⟨h0, h1⟩]; simp
/-- Is a list the row of the free slots that begins so? -/
def Fr (S T : Int) (l : List Int) : Int → List Int → Prop
  | nx, [] => nx = 0
  | nx, x :: xs => nx = x + 1 ∧ 0 ≤ x ∧ x < S ∧ Fr S T l (getI l (Ox S T x 0)) xs
theorem Fr.pos {S T : Int} {l : List Int} {nx : Int} {xs : List Int} (F : Fr S T l nx xs) : 0 ≤ nx ∧ nx ≤ S ∨ xs = [] ∧ nx = 0 := by
  cases xs with
  | nil => exact .inr ⟨rfl, F⟩
  | cons x xs => obtain ⟨h1, h2, h3, _⟩ := F; left; omega
/-- Other cells do not matter. -/
theorem Fr.other {S T : Int} {l l' : List Int} {xs : List Int} : ∀ {nx : Int}, Fr S T l nx xs → (∀ x ∈ xs, getI l' (Ox S T x 0) = getI l (Ox S T x 0)) → Fr S T l' nx xs := by
  induction xs with
  | nil => intro nx F _; exact F
  | cons x xs ih =>
    intro nx F hl
    obtain ⟨h1, h2, h3, h4⟩ := F
    exact ⟨h1, h2, h3, by rw [hl x (by simp)]; exact ih h4 fun y hy => hl y (by simp [hy])⟩
/-- Counts that are no more than so many. -/
def C5 (B : Int) (c : List Int) : Prop := ∃ c0 c1 c2 c3 c4, c = [c0, c1, c2, c3, c4] ∧ (0 ≤ c0 ∧ c0 ≤ B) ∧ (0 ≤ c1 ∧ c1 ≤ B) ∧ (0 ≤ c2 ∧ c2 ≤ B) ∧ (0 ≤ c3 ∧ c3 ≤ B) ∧ c4 = 0
def sm (c : List Int) : Int := c.getD 0 0 + c.getD 1 0 + c.getD 2 0 + c.getD 3 0
theorem c5_up {B : Int} {c : List Int} (h : C5 B c) (hB : B < 1000000) {j : Nat} (hj : j < 4) : C5 (B + 1) (up c j) ∧ sm (up c j) = sm c + 1 ∧ (∀ i, i ≠ j → (up c j).getD i 0 = c.getD i 0) ∧ (up c j).getD j 0 = c.getD j 0 + 1 := by
  obtain ⟨c0, c1, c2, c3, c4, rfl, h0, h1, h2, h3, h4⟩ := h
  have w : ∀ x : Int, 0 ≤ x ∧ x ≤ B → IntKind.wrap .i64 (x + 1) = x + 1 := fun x hx => wi (by omega) (by omega)
  match j, hj with
  | 0, _ =>
    have e : up [c0, c1, c2, c3, c4] 0 = [c0 + 1, c1, c2, c3, c4] := by show [IntKind.wrap .i64 (c0 + 1), c1, c2, c3, c4] = _; rw [w c0 h0]
    rw [e]
    refine ⟨⟨_, _, _, _, _, rfl, by omega, by omega, by omega, by omega, h4⟩, by simp [sm]; omega, fun i hi => ?_, rfl⟩
    match i, hi with
    | 0, hi => exact absurd rfl hi
    | 1, _ => rfl
    | 2, _ => rfl
    | 3, _ => rfl
    | 4, _ => rfl
    | i + 5, _ => rfl
  | 1, _ =>
    have e : up [c0, c1, c2, c3, c4] 1 = [c0, c1 + 1, c2, c3, c4] := by show [c0, IntKind.wrap .i64 (c1 + 1), c2, c3, c4] = _; rw [w c1 h1]
    rw [e]
    refine ⟨⟨_, _, _, _, _, rfl, by omega, by omega, by omega, by omega, h4⟩, by simp [sm]; omega, fun i hi => ?_, rfl⟩
    match i, hi with
    | 0, _ => rfl
    | 1, hi => exact absurd rfl hi
    | 2, _ => rfl
    | 3, _ => rfl
    | 4, _ => rfl
    | i + 5, _ => rfl
  | 2, _ =>
    have e : up [c0, c1, c2, c3, c4] 2 = [c0, c1, c2 + 1, c3, c4] := by show [c0, c1, IntKind.wrap .i64 (c2 + 1), c3, c4] = _; rw [w c2 h2]
    rw [e]
    refine ⟨⟨_, _, _, _, _, rfl, by omega, by omega, by omega, by omega, h4⟩, by simp [sm]; omega, fun i hi => ?_, rfl⟩
    match i, hi with
    | 0, _ => rfl
    | 1, _ => rfl
    | 2, hi => exact absurd rfl hi
    | 3, _ => rfl
    | 4, _ => rfl
    | i + 5, _ => rfl
  | 3, _ =>
    have e : up [c0, c1, c2, c3, c4] 3 = [c0, c1, c2, c3 + 1, c4] := by show [c0, c1, c2, IntKind.wrap .i64 (c3 + 1), c4] = _; rw [w c3 h3]
    rw [e]
    refine ⟨⟨_, _, _, _, _, rfl, by omega, by omega, by omega, by omega, h4⟩, by simp [sm]; omega, fun i hi => ?_, rfl⟩
    match i, hi with
    | 0, _ => rfl
    | 1, _ => rfl
    | 2, _ => rfl
    | 3, hi => exact absurd rfl hi
    | 4, _ => rfl
    | i + 5, _ => rfl
theorem c5_mono {B B' : Int} {c : List Int} (h : C5 B c) (hB : B ≤ B') : C5 B' c := by
  obtain ⟨c0, c1, c2, c3, c4, e, q0, q1, q2, q3, q4⟩ := h
  exact ⟨c0, c1, c2, c3, c4, e, by omega, by omega, by omega, by omega, q4⟩
theorem c5_cL {B : Int} {l c : List Int} {i : Int} (h : C5 B c) (hB : B < 1000000) : C5 (B + 1) (cL l c i) := by
  unfold cL
  split
  · exact (c5_up h hB (by omega)).1
  · exact c5_mono h (by omega)
end Go.Det.E

/- Free slots: memory at first. -/
namespace Go.Det.E
open Go.Proofs Go.Det
attribute [local congr] bind_c cond_c
variable {md : Md} {h hh h' : Heap} {a b k q : Nat} {l c : List Int} {V T : Int} {n : Nat}
/-- The first rounds of Init. -/
def ini (T : Int) (n : Nat) (l : List Int) : Nat → List Int
  | 0 => l
  | k + 1 => putI (ini T n l k) (Ox n T k 0) (k + 2)
def initL (T : Int) (n : Nat) (l : List Int) : List Int :=
  if n = 0 then putI l T 0 else putI (putI (ini T n l n) (Ox n T (n - 1) 0) 0) T 1
theorem ini_len (T : Int) (n : Nat) (l : List Int) : ∀ k, (ini T n l k).length = l.length := by
  intro k
  induction k with
  | zero => rfl
  | succ k ih => rw [ini, putI_len, ih]
theorem initL_len (T : Int) (n : Nat) (l : List Int) : (initL T n l).length = l.length := by
  unfold initL; split <;> simp [putI_len, ini_len]
theorem ini_wd (T : Int) {n : Nat} (hn : n ≤ 48) {l : List Int} (w : Wd l) : ∀ k, k ≤ n → Wd (ini T n l k) := by
  intro k
  induction k with
  | zero => intro _; exact w
  | succ k ih => intro hk; exact (ih (by omega)).put _ ⟨by omega, by omega⟩
theorem initL_wd (T : Int) {n : Nat} (hn : n ≤ 48) {l : List Int} (w : Wd l) : Wd (initL T n l) := by
  unfold initL
  split
  · exact w.put _ ⟨by omega, by omega⟩
  · exact ((ini_wd T hn w n (Nat.le_refl _)).put _ ⟨by omega, by omega⟩).put _ ⟨by omega, by omega⟩
theorem up1 (x : Int) (h0 : 0 ≤ x) (h1 : x < 1000000) : up [0, x, 0, 0, 0] 1 = [0, x + 1, 0, 0, 0] := by
  show [0, IntKind.wrap .i64 (x + 1), 0, 0, 0] = _
  rw [wi (by omega) (by omega)]
/-- What memory has at first. -/
theorem ini_get (hn : n ≤ 48) (hT : 1 ≤ T) (hl : T + 1 + (n : Int) * 7 ≤ l.length) : ∀ k, k ≤ n → ∀ s : Nat, s < k → getI (ini T n l k) (Ox n T s 0) = s + 2 := by
  intro k
  induction k with
  | zero => intro _ s hs; omega
  | succ k ih =>
    intro hk s hs
    rw [ini]
    have o1 : Ox n T (k : Int) 0 = T + 1 + (k : Int) * 7 := Ox_in (by omega) (by omega)
    have o2 : Ox n T (s : Int) 0 = T + 1 + (s : Int) * 7 := Ox_in (by omega) (by omega)
    by_cases e : s = k
    · subst e
      rw [getI_same (by unfold inR; rw [ini_len, o1]; omega)]
    · rw [getI_else (by rw [o1, o2]; omega)]
      exact ih (by omega) s (by omega)
theorem init_fr (hn : n ≤ 48) (hT : 1 ≤ T) (hl : T + 1 + (n : Int) * 7 ≤ l.length) : Fr n T (initL T n l) (getI (initL T n l) T % 65536) ((List.range n).map fun (i : Nat) => (i : Int)) := by
  unfold initL
  by_cases hz : n = 0
  · subst hz
    rw [if_pos rfl, getI_same (by unfold inR; omega)]
    exact rfl
  · rw [if_neg hz]
    have o1 : Ox n T ((n : Int) - 1) 0 = T + 1 + ((n : Int) - 1) * 7 := Ox_in (by omega) (by omega)
    rw [getI_same (by unfold inR; rw [putI_len, ini_len]; omega)]
    have gt : ∀ s : Nat, s < n → getI (putI (putI (ini T n l n) (Ox n T ((n : Int) - 1) 0) 0) T 1) (Ox n T s 0) = if s = n - 1 then 0 else (s : Int) + 2 := by
      intro s hs
      have o2 : Ox n T (s : Int) 0 = T + 1 + (s : Int) * 7 := Ox_in (by omega) (by omega)
      rw [getI_else (by rw [o2]; omega)]
      split
      · rename_i e
        have : ((s : Nat) : Int) = (n : Int) - 1 := by omega
        rw [this, getI_same (by unfold inR; rw [ini_len, o1]; omega)]
      · rename_i e
        rw [getI_else (by rw [o1, o2]; omega)]
        exact ini_get hn hT hl n (Nat.le_refl _) s hs
    generalize putI (putI (ini T n l n) (Ox n T ((n : Int) - 1) 0) 0) T 1 = l' at gt
    have go : ∀ m k : Nat, k + m = n → Fr n T l' (if k = n then 0 else (k : Int) + 1) ((List.range' k m).map fun (i : Nat) => (i : Int)) := by
      intro m
      induction m with
      | zero => intro k hk; obtain rfl : k = n := by omega
                rw [if_pos rfl]; exact rfl
      | succ m ih =>
        intro k hk
        rw [if_neg (by omega), List.range'_succ, List.map_cons]
        refine ⟨rfl, by omega, by omega, ?_⟩
        rw [gt k (by omega)]
        have := ih (k + 1) (by omega)
        by_cases e : k = n - 1
        · rw [if_pos e]; rw [if_pos (by omega)] at this; exact this
        · rw [if_neg e]; rw [if_neg (by omega)] at this
          have e2 : (k : Int) + 2 = ((k + 1 : Nat) : Int) + 1 := by omega
          rw [e2]; exact this
    have := go n 0 (by omega)
    rw [if_neg (by omega)] at this
    rw [List.range_eq_range']
    exact this
theorem rt1 (hn : n ≤ 48) : Rt 1 n 1 := ⟨by omega, by omega, by omega⟩
theorem Cn1 : (1 : Int) + 1 + (n : Int) * 7 ≤ Cn 1 n 1 ∧ Cn 1 n 1 ≤ 5000 ∨ 48 < n := by
  by_cases hn : n ≤ 48
  · left
    have h1 := Cn_le (rt1 hn)
    refine ⟨?_, h1.2.1⟩
    have lv : Lv 1 = 1 := rfl
    simp only [Cn, Nd, Eg, Hd, Nn, lv]
    omega
  · right; omega
theorem init_tag (hn : n ≤ 48) (hl : (1 : Int) + 1 + (n : Int) * 7 ≤ l.length) : getI (initL 1 n l) 1 / 65536 = 0 := by
  unfold initL
  by_cases hz : n = 0
  · subst hz
    rw [if_pos rfl, getI_same (by unfold inR; omega)]; rfl
  · rw [if_neg hz, getI_same (by unfold inR; rw [putI_len, ini_len]; omega)]; rfl
end Go.Det.E
