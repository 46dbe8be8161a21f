/- What a pen does. -/
import Derived.Test.YtkbpnndheliokaaP4
set_option autoImplicit false
set_option linter.unusedVariables false
set_option linter.unusedSimpArgs false
namespace Go.Det.E
open Go.Proofs Go.Det
attribute [local congr] bind_c cond_c
theorem W.bits_of {o n t g : Int} (hr : W.rightW o n t g = true) : 0 ≤ W.bitsW o n t g ∧ W.bitsW o n t g < 18446744073709551616 ∧ W.bitsW o n t g / 65536 % 65536 = o ∧ W.bitsW o n t g % 65536 = n ∧ W.bitsW o n t g / 4294967296 % 256 = t ∧ W.bitsW o n t g / 1099511627776 = g := by
  obtain ⟨ho, hn, ht, hg, _⟩ := W.rightW_iff.1 hr
  unfold W.bitsW
  omega
theorem W.bits_right {o n t g : Int} (hr : W.rightW o n t g = true) : W.rightB (W.bitsW o n t g) = true := by
  obtain ⟨_, _, e1, e2, e3, e4⟩ := W.bits_of hr
  unfold W.rightB
  rw [e1, e2, e3, e4]; exact hr
/-- Blocks that are there, and are none of the arena's. -/
def Bk (a b : Nat) (hh : Heap) (K : List (Nat × List Value)) : Prop := ∀ p ∈ K, hh[p.1]? = some (.own p.2) ∧ p.1 ≠ a ∧ p.1 ≠ b
variable {md : Md} {h hh h' : Heap} {a b : Nat} {l c : List Int} {V S T : Int} {K : List (Nat × List Value)}
theorem Bk.only (B : Bk a b hh K) (o : Only a b hh h') : Bk a b h' K := fun p hp => ⟨(o.oth _ (B p hp).2.1 (B p hp).2.2).trans (B p hp).1, (B p hp).2⟩
theorem Bk.app (B : Bk a b hh K) (bs : Heap) : Bk a b (hh ++ bs) K := fun p hp => ⟨by rw [List.getElem?_append_left (lt_of (B p hp).1)]; exact (B p hp).1, (B p hp).2⟩
theorem Bk.at (B : Bk a b hh K) {y : Nat} {cs : List Value} (hy : (y, cs) ∈ K) : hh[y]? = some (.own cs) := (B _ hy).1
theorem Bk.cons (B : Bk a b hh K) {y : Nat} {cs : List Value} (hy : hh[y]? = some (.own cs)) (h1 : y ≠ a) (h2 : y ≠ b) : Bk a b hh ((y, cs) :: K) := by
  intro p hp
  rcases List.mem_cons.1 hp with rfl | hp
  · exact ⟨hy, h1, h2⟩
  · exact B p hp
theorem cL_in {i : Int} (hi : inR l i) : cL l c i = up c 0 := if_pos hi
theorem cS_in {i : Int} (hi : inR l i) : cS l c i = up c 1 := if_pos hi
/-- What a change leaves. -/
def chL (l : List Int) (x o n t g : Int) : List Int := bif W.rightB (getI l x) && W.rightW o n t g then putI l x (W.bitsW o n t g) else l
def chC (l c : List Int) (x o n t g : Int) : List Int := bif W.rightB (getI l x) && W.rightW o n t g then cS l (cL l c x) x else cL l c x
theorem change_e (A : Ar h a b l c) (hro : md.ro ≤ a) (hrb : md.ro ≤ b) (hr : md.ro ≤ h.length) (w : Wd l) {x o n t g : Int} {cv : Value} {v : Int} (hv : getI l x = v)
    (H : W.rightB v = true → ∀ (m : Md) (hx : Heap) (kk : Value → Heap → Option (Value × Heap)), OG a b h hx → clV C m cv [(Value.agg #[(Value.int .i64 (v / 65536 % 65536)), (Value.int .i64 (v % 65536)), (Value.int .i64 (v / 4294967296 % 256)), (Value.int .i64 (v / 1099511627776))])] hx kk = kk ((Value.agg #[(Value.int .i64 o), (Value.int .i64 n), (Value.int .i64 t), (Value.int .i64 g)])) hx) :
    ∃ h', C md 88 [ifA a, (Value.int .i64 x), cv] h = some ((Value.tuple #[]), h') ∧ Ar h' a b (chL l x o n t g) (chC l c x o n t g) ∧ Only a b h h' := by
  have la := lt_of A.ha
  have lb := lt_of A.hb
  have vw := w.get x
  obtain ⟨h3, e3, A3, o3⟩ := pl_x (md := ⟨md.ro, h.length⟩) A hro x
  unfold chL chC
  rw [hv] at e3 vw ⊢
  have og : OG a b h h3 := OG.refl.only o3
  have l3 := o3.len
  have hr3 : md.ro ≤ h3.length := by omega
  have hl3 : h.length ≤ h3.length := by omega
  have up := fun (m : Md) (h : Heap) => W.unpack_s vw.1 vw.2 m h
  have st4 := fun (α : Type) (o n t g : Int) (h' : Heap) (kk : Heap → Option α) => st_N ⟨md.ro, h.length⟩ 4 h3.length 0 [(Value.int .i64 o), (Value.int .i64 n), (Value.int .i64 t), (Value.int .i64 g)] h' kk rfl rfl
  cases hr' : W.rightB v
  · simp only [hr', cond_false] at up
    refine ⟨(h3 ++ [Blk.own [(Value.int .i64 0), (Value.int .i64 0), (Value.int .i64 0), (Value.int .i64 0)]]).take h.length, ?_, (A3.app _).take la lb, (og.app _).done⟩
    rw [C, call_eq, F88_eq]
    unfold F88
    simp only [go_sem, Nat.reduceAdd, Nat.reduceLeDiff, Nat.reduceMul, Int.reduceBEq, Int.reduceBNe, Int.reduceLT, Int.reduceLE, Int.reduceGT, clI_load, e3, up, st4, hr3, hl3]
  · simp only [hr', cond_true] at up
    have H' := fun (m : Md) (kk : Value → Heap → Option (Value × Heap)) => H hr' m (h3 ++ [Blk.own [(Value.int .i64 (v / 65536 % 65536)), (Value.int .i64 (v % 65536)), (Value.int .i64 (v / 4294967296 % 256)), (Value.int .i64 (v / 1099511627776))]]) kk (og.app _)
    cases hp : W.rightW o n t g
    · have pk := fun (m : Md) (h : Heap) => W.pack_s m o n t g h
      simp only [hp, cond_false] at pk
      refine ⟨(h3 ++ [Blk.own [(Value.int .i64 (v / 65536 % 65536)), (Value.int .i64 (v % 65536)), (Value.int .i64 (v / 4294967296 % 256)), (Value.int .i64 (v / 1099511627776))]]).take h.length, ?_, (A3.app _).take la lb, (og.app _).done⟩
      rw [C, call_eq, F88_eq]
      unfold F88
      simp only [go_sem, Nat.reduceAdd, Nat.reduceLeDiff, Nat.reduceMul, Int.reduceBEq, Int.reduceBNe, Int.reduceLT, Int.reduceLE, Int.reduceGT, clI_load, e3, up, st4, hr3, hl3, H', pk]
    · have pk := fun (m : Md) (h : Heap) => W.pack_s m o n t g h
      simp only [hp, cond_true] at pk
      obtain ⟨h5, e5, A5, o5⟩ := ps_x (md := ⟨md.ro, h.length⟩) (A3.app [Blk.own [(Value.int .i64 (v / 65536 % 65536)), (Value.int .i64 (v % 65536)), (Value.int .i64 (v / 4294967296 % 256)), (Value.int .i64 (v / 1099511627776))]]) hro hrb x (W.bitsW o n t g)
      refine ⟨h5.take h.length, ?_, A5.take la lb, ((og.app _).only o5).done⟩
      rw [C, call_eq, F88_eq]
      unfold F88
      simp only [go_sem, Nat.reduceAdd, Nat.reduceLeDiff, Nat.reduceMul, Int.reduceBEq, Int.reduceBNe, Int.reduceLT, Int.reduceLE, Int.reduceGT, clI_load, e3, up, st4, hr3, hl3, H', pk, clI_store, e5]
/-- What a pen's write makes of the old number. -/
def olW (th tag v : Int) : Int := bif v / 4294967296 % 256 != th || v / 1099511627776 != tag then v % 65536 else v / 65536 % 65536
theorem wcl_s {th tag y v : Int} {bp bx : Nat} (hp : hh[bp]? = some (.own [(Value.int .i64 th), (Value.int .i64 tag)])) (hx : hh[bx]? = some (.own [(Value.int .i64 y)])) (md : Md) :
    C md 103 [(Value.agg #[(Value.int .i64 (v / 65536 % 65536)), (Value.int .i64 (v % 65536)), (Value.int .i64 (v / 4294967296 % 256)), (Value.int .i64 (v / 1099511627776))]), (Value.pointer (some ⟨bp, 0, none⟩)), (Value.pointer (some ⟨bx, 0, none⟩))] hh = some ((Value.agg #[(Value.int .i64 (olW th tag v)), (Value.int .i64 y), (Value.int .i64 th), (Value.int .i64 tag)]), hh) := by
  have lp := lt_of hp
  have lx := lt_of hx
  have r : ∀ hx : Heap, hx[bp]? = some (.own [(Value.int .i64 th), (Value.int .i64 tag)]) → rd hx bp 0 = some ((Value.int .i64 th)) ∧ rd hx bp 1 = some ((Value.int .i64 tag)) := fun hx e => ⟨by rw [rd_own e]; rfl, by rw [rd_own e]; rfl⟩
  have q : ∀ hq : Heap, hq[bx]? = some (.own [(Value.int .i64 y)]) → rd hq bx 0 = some ((Value.int .i64 y)) := fun hq e => by rw [rd_own e]; rfl
  have a1 : ∀ bs : Heap, rd (hh ++ bs) bp 0 = some ((Value.int .i64 th)) ∧ rd (hh ++ bs) bp 1 = some ((Value.int .i64 tag)) := fun bs => r _ (by rw [List.getElem?_append_left lp]; exact hp)
  have a2 : ∀ bs : Heap, rd (hh ++ bs) bx 0 = some ((Value.int .i64 y)) := fun bs => q _ (by rw [List.getElem?_append_left lx]; exact hx)
  have b1 := fun bs => (a1 bs).1
  have b2 := fun bs => (a1 bs).2
  have st4 := fun (α : Type) (m : Md) (b : Nat) (o n t g : Int) (h' : Heap) (kk : Heap → Option α) => st_N m 4 b 0 [(Value.int .i64 o), (Value.int .i64 n), (Value.int .i64 t), (Value.int .i64 g)] h' kk rfl rfl
  rw [C, call_eq, F103_eq]
  unfold F103 olW
  cases h1 : (v / 4294967296 % 256 != th)
  · cases h2 : (v / 1099511627776 != tag)
    · simp only [go_sem, Nat.reduceAdd, Nat.reduceLeDiff, Nat.reduceMul, Int.reduceBEq, Int.reduceBNe, Int.reduceLT, Int.reduceLE, Int.reduceGT, b1, b2, a2, h1, h2, aBin_neq, J103_0, st4]
    · simp only [go_sem, Nat.reduceAdd, Nat.reduceLeDiff, Nat.reduceMul, Int.reduceBEq, Int.reduceBNe, Int.reduceLT, Int.reduceLE, Int.reduceGT, b1, b2, a2, h1, h2, aBin_neq, J103_0, st4]
  · simp only [go_sem, Nat.reduceAdd, Nat.reduceLeDiff, Nat.reduceMul, Int.reduceBEq, Int.reduceBNe, Int.reduceLT, Int.reduceLE, Int.reduceGT, b1, b2, a2, h1, aBin_neq, J103_0, st4]
theorem ccl_s {v : Int} (md : Md) : C md 89 [(Value.agg #[(Value.int .i64 (v / 65536 % 65536)), (Value.int .i64 (v % 65536)), (Value.int .i64 (v / 4294967296 % 256)), (Value.int .i64 (v / 1099511627776))])] hh = some ((Value.agg #[(Value.int .i64 (v % 65536)), (Value.int .i64 (v % 65536)), (Value.int .i64 0), (Value.int .i64 0)]), hh) := by
  have e : W.cutW (v % 65536) = v % 65536 := by unfold W.cutW; split <;> split <;> omega
  have st4 := fun (α : Type) (m : Md) (b : Nat) (o n t g : Int) (h' : Heap) (kk : Heap → Option α) => st_N m 4 b 0 [(Value.int .i64 o), (Value.int .i64 n), (Value.int .i64 t), (Value.int .i64 g)] h' kk rfl rfl
  rw [C, call_eq, F89_eq]
  unfold F89
  simp only [go_sem, Nat.reduceAdd, Nat.reduceLeDiff, Nat.reduceMul, Int.reduceBEq, Int.reduceBNe, Int.reduceLT, Int.reduceLE, Int.reduceGT, W.of_s, e, st4]
theorem write_e (A : Ar h a b l c) (hro : md.ro ≤ a) (hrb : md.ro ≤ b) (hr : md.ro ≤ h.length) (w : Wd l) {x y th tag : Int} {v : Int} (hv : getI l x = v) :
    ∃ h', C md 99 [(Value.agg #[(Value.int .i64 th), (Value.int .i64 tag)]), ifA a, (Value.int .i64 x), (Value.int .i64 y)] h = some ((Value.tuple #[]), h') ∧ Ar h' a b (chL l x (olW th tag v) y th tag) (chC l c x (olW th tag v) y th tag) ∧ Only a b h h' := by
  have la := lt_of A.ha
  have lb := lt_of A.hb
  obtain ⟨h3, e3, A3, o3⟩ := change_e (md := ⟨md.ro, h.length⟩) (A.app [Blk.own [(Value.int .i64 th), (Value.int .i64 tag)], Blk.own [(Value.int .i64 y)]]) hro hrb (by simp; omega) w (o := olW th tag v) (n := y) (t := th) (g := tag) (cv := .func (.func 103) #[] #[(Value.pointer (some ⟨h.length, 0, none⟩)), (Value.pointer (some ⟨h.length + 1, 0, none⟩))]) hv
    (by
      intro hr' m hx kk og
      have b1 : hx[h.length]? = some (.own [(Value.int .i64 th), (Value.int .i64 tag)]) := by rw [og.oth _ (by simp) (by omega) (by omega)]; simp
      have b2 : hx[h.length + 1]? = some (.own [(Value.int .i64 y)]) := by rw [og.oth _ (by simp) (by omega) (by omega), List.getElem?_append_right (by omega), Nat.add_sub_cancel_left]; rfl
      have e := wcl_s (v := v) b1 b2 m
      rw [clV_f]
      simp only [go_sem, Nat.reduceAdd, Nat.reduceLeDiff, Nat.reduceMul, Int.reduceBEq, Int.reduceBNe, Int.reduceLT, Int.reduceLE, Int.reduceGT, e])
  refine ⟨h3.take h.length, ?_, A3.take la lb, o3.take⟩
  rw [C, call_eq, F99_eq]
  unfold F99
  simp only [go_sem, Nat.reduceAdd, Nat.reduceLeDiff, Nat.reduceMul, Int.reduceBEq, Int.reduceBNe, Int.reduceLT, Int.reduceLE, Int.reduceGT, e3]
theorem clean_e (A : Ar h a b l c) (hro : md.ro ≤ a) (hrb : md.ro ≤ b) (hr : md.ro ≤ h.length) (w : Wd l) {x th tag : Int} {v : Int} (hv : getI l x = v) :
    ∃ h', C md 71 [(Value.agg #[(Value.int .i64 th), (Value.int .i64 tag)]), ifA a, (Value.int .i64 x)] h = some ((Value.tuple #[]), h') ∧ Ar h' a b (chL l x (v % 65536) (v % 65536) 0 0) (chC l c x (v % 65536) (v % 65536) 0 0) ∧ Only a b h h' := by
  have la := lt_of A.ha
  have lb := lt_of A.hb
  obtain ⟨h3, e3, A3, o3⟩ := change_e (md := ⟨md.ro, h.length⟩) (A.app [Blk.own [(Value.int .i64 th), (Value.int .i64 tag)]]) hro hrb (by simp; omega) w (o := v % 65536) (n := v % 65536) (t := 0) (g := 0) (cv := .func (.func 89) #[] #[]) hv
    (by
      intro hr' m hx kk og
      have e := ccl_s (v := v) (hh := hx) m
      rw [clV_f]
      simp only [go_sem, Nat.reduceAdd, Nat.reduceLeDiff, Nat.reduceMul, Int.reduceBEq, Int.reduceBNe, Int.reduceLT, Int.reduceLE, Int.reduceGT, e])
  refine ⟨h3.take h.length, ?_, A3.take la lb, o3.take⟩
  rw [C, call_eq, F71_eq]
  unfold F71
  simp only [go_sem, Nat.reduceAdd, Nat.reduceLeDiff, Nat.reduceMul, Int.reduceBEq, Int.reduceBNe, Int.reduceLT, Int.reduceLE, Int.reduceGT, e3]
/-- What a thread's state leaves. -/
def snL (l : List Int) (x tag : Int) (d : Bool) : List Int := bif W.inW tag 16777215 then putI l x (W.stW tag d) else l
def snC (l c : List Int) (x tag : Int) : List Int := bif W.inW tag 16777215 then cS l c x else c
end Go.Det.E
