/- Trees of a row by priorities: split and merged; there is one alone of each row. No program in sight. -/
import Derived.Test.YtibaodefgncbmaaN1
import Derived.Test.YtibaodefgncbmaaQ1
set_option autoImplicit false
set_option linter.unusedVariables false
set_option linter.unusedSimpArgs false
namespace Go.Det.U
inductive Tr where
  | nil
  | nd (l : Tr) (x : Int) (r : Tr)
def Tr.row : Tr → List Int
  | .nil => []
  | .nd l x r => l.row ++ x :: r.row
def Tr.rt : Tr → Int
  | .nil => 0
  | .nd _ x _ => x
def Tr.sz : Tr → Nat
  | .nil => 0
  | .nd l _ r => l.sz + r.sz + 1
/-- Is a node above another one? -/
def ab (pr : Int → Int) (x y : Int) : Bool := decide (pr y < pr x) || (decide (pr x = pr y) && decide (x < y))
def Tr.hp (pr : Int → Int) : Tr → Prop
  | .nil => True
  | .nd l x r => (∀ y ∈ l.row, ab pr x y = true) ∧ (∀ y ∈ r.row, ab pr x y = true) ∧ l.hp pr ∧ r.hp pr
/-! ### Sums -/
def Tr.nv (vx : Int → Bool) : Tr → Nat
  | .nil => 0
  | .nd l x r => l.nv vx + r.nv vx + (bif vx x then 1 else 0)
def Tr.am (mk : Int → Nat) : Tr → Nat
  | .nil => 0
  | .nd l x r => (mk x ||| l.am mk) ||| r.am mk
def SM (sz nv own all : Nat) : Int := ((((all * 4 + own) * 65536 + nv) * 65536 + sz : Nat) : Int)
def Tr.sm (mk : Int → Nat) (vx : Int → Bool) : Tr → Int
  | .nil => 0
  | .nd l x r => SM (l.sz + r.sz + 1) (l.nv vx + r.nv vx + (bif vx x then 1 else 0)) (mk x) ((mk x ||| l.am mk) ||| r.am mk)
theorem Tr.nv_le (vx : Int → Bool) (t : Tr) : t.nv vx ≤ t.sz := by
  induction t with
  | nil => exact Nat.le_refl _
  | nd l x r hl hr => simp only [Tr.nv, Tr.sz]; cases vx x <;> simp <;> omega
theorem Tr.am_lt {mk : Int → Nat} (hm : ∀ x, mk x < 4) (t : Tr) : t.am mk < 4 := by
  induction t with
  | nil => show 0 < 4; omega
  | nd l x r hl hr => exact Nat.or_lt_two_pow (n := 2) (Nat.or_lt_two_pow (n := 2) (hm x) hl) hr
end Go.Det.U
/- Nodes in memory: their parents, children and sums, as functions of the nodes. -/
namespace Go.Det.E
open Go.Proofs Go.Det Go.Det.U
structure NS where
  par : Int → Int
  lf : Int → Int
  rt : Int → Int
  sm : Int → Int
def upI (f : Int → Int) (x v : Int) : Int → Int := fun y => if y = x then v else f y
theorem upI_same (f : Int → Int) (x v : Int) : upI f x v x = v := if_pos rfl
theorem upI_else {f : Int → Int} {x v y : Int} (h : y ≠ x) : upI f x v y = f y := if_neg h
/-- A node's cells begin here. -/
def qN (V S T x : Int) : Int := Nd V S T + (x - 1) * 7
/-- Is it a cell of a node's parent, children or sum? -/
def isNF (V S T i : Int) : Prop := Nd V S T ≤ i ∧ ((i - Nd V S T) % 7 = 2 ∨ (i - Nd V S T) % 7 = 3 ∨ (i - Nd V S T) % 7 = 4 ∨ (i - Nd V S T) % 7 = 6)
/-- Memory that has nodes so; all else is as told. -/
structure Rep (V S T : Int) (l0 : Int → Int) (l : List Int) (s : NS) : Prop where
  len : (l.length : Int) = Cn V S T
  wd : Wd l
  oth : ∀ i, ¬ isNF V S T i → getI l i = l0 i
  lf : ∀ x, 1 ≤ x → x ≤ Nn V S → getI l (qN V S T x + 3) = s.lf x
  rt : ∀ x, 1 ≤ x → x ≤ Nn V S → getI l (qN V S T x + 4) = s.rt x
  sm : ∀ x, 1 ≤ x → x ≤ Nn V S → getI l (qN V S T x + 6) = s.sm x
  sh : ∀ x, 1 ≤ x → x ≤ Nn V S → lvlB V x = 0 → W.rightB (getI l (qN V S T x + 2)) = true ∧ getI l (qN V S T x + 2) % 65536 = s.par x
  ns : ∀ x, 1 ≤ x → x ≤ Nn V S → lvlB V x ≠ 0 → getI l (qN V S T x + 2) = s.par x
variable {V S T : Int} {l0 : Int → Int} {l : List Int} {s : NS} {x v p : Int}
theorem qN_in (hR : Rt V S T) (h1 : 1 ≤ x) (h2 : x ≤ Nn V S) : 0 ≤ qN V S T x ∧ qN V S T x + 6 < Cn V S T := by
  have := order hR
  have c : Cn V S T = Nd V S T + Nn V S * 7 := rfl
  unfold qN; omega
theorem Rep.putLf (hR : Rt V S T) (R : Rep V S T l0 l s) (h1 : 1 ≤ x) (h2 : x ≤ Nn V S) (hv : 0 ≤ v ∧ v < 18446744073709551616) : Rep V S T l0 (putI l (qN V S T x + 3) v) { s with lf := upI s.lf x v } := by
  have q := qN_in hR h1 h2
  have hl := R.len
  have g := fun j => getI_put l (qN V S T x + 3) j v
  refine ⟨by rw [putI_len]; exact hl, R.wd.put _ hv, fun i hi => ?_, fun y a b => ?_, fun y a b => ?_, fun y a b => ?_, fun y a b c => ?_, fun y a b c => ?_⟩
  · rw [g, if_neg, R.oth i hi]
    intro e; apply hi; unfold isNF; unfold qN at e; omega
  · rw [g]
    by_cases e : y = x
    · subst e; rw [if_pos ⟨rfl, by omega, by omega⟩]; exact (upI_same _ _ _).symm
    · rw [if_neg (by unfold qN; omega), R.lf y a b]; exact (upI_else e).symm
  · rw [g, if_neg (by unfold qN; omega)]; exact R.rt y a b
  · rw [g, if_neg (by unfold qN; omega)]; exact R.sm y a b
  · rw [g, if_neg (by unfold qN; omega)]; exact R.sh y a b c
  · rw [g, if_neg (by unfold qN; omega)]; exact R.ns y a b c
theorem Rep.putRt (hR : Rt V S T) (R : Rep V S T l0 l s) (h1 : 1 ≤ x) (h2 : x ≤ Nn V S) (hv : 0 ≤ v ∧ v < 18446744073709551616) : Rep V S T l0 (putI l (qN V S T x + 4) v) { s with rt := upI s.rt x v } := by
  have q := qN_in hR h1 h2
  have hl := R.len
  have g := fun j => getI_put l (qN V S T x + 4) j v
  refine ⟨by rw [putI_len]; exact hl, R.wd.put _ hv, fun i hi => ?_, fun y a b => ?_, fun y a b => ?_, fun y a b => ?_, fun y a b c => ?_, fun y a b c => ?_⟩
  · rw [g, if_neg, R.oth i hi]
    intro e; apply hi; unfold isNF; unfold qN at e; omega
  · rw [g, if_neg (by unfold qN; omega)]; exact R.lf y a b
  · rw [g]
    by_cases e : y = x
    · subst e; rw [if_pos ⟨rfl, by omega, by omega⟩]; exact (upI_same _ _ _).symm
    · rw [if_neg (by unfold qN; omega), R.rt y a b]; exact (upI_else e).symm
  · rw [g, if_neg (by unfold qN; omega)]; exact R.sm y a b
  · rw [g, if_neg (by unfold qN; omega)]; exact R.sh y a b c
  · rw [g, if_neg (by unfold qN; omega)]; exact R.ns y a b c
theorem Rep.putSm (hR : Rt V S T) (R : Rep V S T l0 l s) (h1 : 1 ≤ x) (h2 : x ≤ Nn V S) (hv : 0 ≤ v ∧ v < 18446744073709551616) : Rep V S T l0 (putI l (qN V S T x + 6) v) { s with sm := upI s.sm x v } := by
  have q := qN_in hR h1 h2
  have hl := R.len
  have g := fun j => getI_put l (qN V S T x + 6) j v
  refine ⟨by rw [putI_len]; exact hl, R.wd.put _ hv, fun i hi => ?_, fun y a b => ?_, fun y a b => ?_, fun y a b => ?_, fun y a b c => ?_, fun y a b c => ?_⟩
  · rw [g, if_neg, R.oth i hi]
    intro e; apply hi; unfold isNF; unfold qN at e; omega
  · rw [g, if_neg (by unfold qN; omega)]; exact R.lf y a b
  · rw [g, if_neg (by unfold qN; omega)]; exact R.rt y a b
  · rw [g]
    by_cases e : y = x
    · subst e; rw [if_pos ⟨rfl, by omega, by omega⟩]; exact (upI_same _ _ _).symm
    · rw [if_neg (by unfold qN; omega), R.sm y a b]; exact (upI_else e).symm
  · rw [g, if_neg (by unfold qN; omega)]; exact R.sh y a b c
  · rw [g, if_neg (by unfold qN; omega)]; exact R.ns y a b c
/-- The cell of a parent is written. -/
theorem Rep.putPar (hR : Rt V S T) (R : Rep V S T l0 l s) (h1 : 1 ≤ x) (h2 : x ≤ Nn V S) (hv : 0 ≤ v ∧ v < 18446744073709551616) (hs : lvlB V x = 0 → W.rightB v = true ∧ v % 65536 = p) (hn : lvlB V x ≠ 0 → v = p) :
    Rep V S T l0 (putI l (qN V S T x + 2) v) { s with par := upI s.par x p } := by
  have q := qN_in hR h1 h2
  have hl := R.len
  have g := fun j => getI_put l (qN V S T x + 2) j v
  refine ⟨by rw [putI_len]; exact hl, R.wd.put _ hv, fun i hi => ?_, fun y a b => ?_, fun y a b => ?_, fun y a b => ?_, fun y a b c => ?_, fun y a b c => ?_⟩
  · rw [g, if_neg, R.oth i hi]
    intro e; apply hi; unfold isNF; unfold qN at e; omega
  · rw [g, if_neg (by unfold qN; omega)]; exact R.lf y a b
  · rw [g, if_neg (by unfold qN; omega)]; exact R.rt y a b
  · rw [g, if_neg (by unfold qN; omega)]; exact R.sm y a b
  · rw [g]
    by_cases e : y = x
    · subst e; rw [if_pos ⟨rfl, by omega, by omega⟩]
      show W.rightB v = true ∧ v % 65536 = upI s.par y p y
      rw [upI_same]; exact hs c
    · rw [if_neg (by unfold qN; omega)]
      show _ ∧ _ = upI s.par x p y
      rw [upI_else e]; exact R.sh y a b c
  · rw [g]
    by_cases e : y = x
    · subst e; rw [if_pos ⟨rfl, by omega, by omega⟩]
      show v = upI s.par y p y
      rw [upI_same]; exact hn c
    · rw [if_neg (by unfold qN; omega)]
      show _ = upI s.par x p y
      rw [upI_else e]; exact R.ns y a b c
/-- What a pen writes is a word, which means the new number. -/
theorem ch_is (c : Int) (hc : W.rightB c = true) (hp : 0 ≤ p ∧ p ≤ 65535) (hw : 0 ≤ c ∧ c < 18446744073709551616) : W.rightW (olW 1 0 c) p 1 0 = true ∧ (0 ≤ W.bitsW (olW 1 0 c) p 1 0 ∧ W.bitsW (olW 1 0 c) p 1 0 < 18446744073709551616) ∧ W.rightB (W.bitsW (olW 1 0 c) p 1 0) = true ∧ W.bitsW (olW 1 0 c) p 1 0 % 65536 = p := by
  have ho : 0 ≤ olW 1 0 c ∧ olW 1 0 c ≤ 65535 := by
    unfold olW
    cases (c / 4294967296 % 256 != 1 || c / 1099511627776 != 0)
    · simp only [cond_false]; omega
    · simp only [cond_true]; omega
  have hr : W.rightW (olW 1 0 c) p 1 0 = true := W.rightW_iff.2 ⟨ho, hp, by omega, by omega, .inl (by omega)⟩
  obtain ⟨b1, b2, b3, b4, b5⟩ := W.bits_of hr
  exact ⟨hr, ⟨b1, b2⟩, W.bits_right hr, b4⟩
end Go.Det.E

/- Trees in memory: what stays a tree when a node's child is changed. -/
namespace Go.Det.E
open Go.Proofs Go.Det Go.Det.U
def IsT (mk : Int → Nat) (vx : Int → Bool) (s : NS) : Tr → Int → Prop
  | .nil, _ => True
  | .nd l x r, p => s.par x = p ∧ s.lf x = l.rt ∧ s.rt x = r.rt ∧ s.sm x = (Tr.nd l x r).sm mk vx ∧ IsT mk vx s l x ∧ IsT mk vx s r x
/-- A tree, whatever it hangs under. -/
def IsB (mk : Int → Nat) (vx : Int → Bool) (s : NS) : Tr → Prop
  | .nil => True
  | .nd l x r => s.lf x = l.rt ∧ s.rt x = r.rt ∧ s.sm x = (Tr.nd l x r).sm mk vx ∧ IsT mk vx s l x ∧ IsT mk vx s r x
def SameOn (xs : List Int) (s s' : NS) : Prop := ∀ x ∈ xs, s'.par x = s.par x ∧ s'.lf x = s.lf x ∧ s'.rt x = s.rt x ∧ s'.sm x = s.sm x
def SameOut (xs : List Int) (s s' : NS) : Prop := ∀ x, x ∉ xs → s'.par x = s.par x ∧ s'.lf x = s.lf x ∧ s'.rt x = s.rt x ∧ s'.sm x = s.sm x
variable {mk : Int → Nat} {vx : Int → Bool} {s s' s'' : NS} {pr : Int → Int}
theorem SameOut.refl (xs : List Int) (s : NS) : SameOut xs s s := fun _ _ => ⟨rfl, rfl, rfl, rfl⟩
theorem SameOut.trans {xs : List Int} (h : SameOut xs s s') (h' : SameOut xs s' s'') : SameOut xs s s'' := fun x hx => by
  obtain ⟨a1, a2, a3, a4⟩ := h x hx
  obtain ⟨b1, b2, b3, b4⟩ := h' x hx
  exact ⟨b1.trans a1, b2.trans a2, b3.trans a3, b4.trans a4⟩
theorem SameOut.mono {xs ys : List Int} (h : SameOut xs s s') (hs : ∀ x ∈ xs, x ∈ ys) : SameOut ys s s' := fun x hx => h x fun q => hx (hs x q)
theorem SameOut.on {xs ys : List Int} (h : SameOut xs s s') (hd : ∀ x ∈ ys, x ∉ xs) : SameOn ys s s' := fun x hx => h x (hd x hx)
theorem IsT.congr {t : Tr} {p : Int} (h : SameOn t.row s s') (I : IsT mk vx s t p) : IsT mk vx s' t p := by
  induction t generalizing p with
  | nil => trivial
  | nd l x r hl hr =>
    obtain ⟨a1, a2, a3, a4, a5, a6⟩ := I
    obtain ⟨b1, b2, b3, b4⟩ := h x (by simp [Tr.row])
    exact ⟨b1.trans a1, b2.trans a2, b3.trans a3, b4.trans a4, hl (fun y hy => h y (by simp [Tr.row, hy])) a5, hr (fun y hy => h y (by simp [Tr.row, hy])) a6⟩
theorem IsT.body {t : Tr} {p : Int} (I : IsT mk vx s t p) : IsB mk vx s t := by
  cases t with
  | nil => trivial
  | nd l x r => exact ⟨I.2.1, I.2.2.1, I.2.2.2.1, I.2.2.2.2.1, I.2.2.2.2.2⟩
theorem IsB.under {t : Tr} {p : Int} (B : IsB mk vx s t) (h : ∀ x, t.rt = x → t ≠ .nil → s.par x = p) : IsT mk vx s t p := by
  cases t with
  | nil => trivial
  | nd l x r => exact ⟨h x rfl (by simp), B.1, B.2.1, B.2.2.1, B.2.2.2.1, B.2.2.2.2⟩
theorem IsT.par {t : Tr} {p : Int} (I : IsT mk vx s t p) (h : t ≠ .nil) : s.par t.rt = p := by
  cases t with
  | nil => exact absurd rfl h
  | nd l x r => exact I.1
theorem IsB.congr {t : Tr} (h : SameOn t.row s s') (I : IsB mk vx s t) : IsB mk vx s' t := by
  cases t with
  | nil => trivial
  | nd l x r =>
    obtain ⟨a2, a3, a4, a5, a6⟩ := I
    obtain ⟨b1, b2, b3, b4⟩ := h x (by simp [Tr.row])
    exact ⟨b2.trans a2, b3.trans a3, b4.trans a4, a5.congr fun y hy => h y (by simp [Tr.row, hy]), a6.congr fun y hy => h y (by simp [Tr.row, hy])⟩
end Go.Det.E

/- Trees in memory: what the functions on one node do. -/
namespace Go.Det.E
open Go.Proofs Go.Det Go.Det.U
attribute [local congr] bind_c cond_c
/-! ### Bits of sums -/
theorem bv64 {x : Nat} (h : x < 2 ^ 64) : (BitVec.ofInt 64 (x : Int)).toNat = x := by
  rw [BitVec.ofInt_natCast, BitVec.toNat_ofNat]; exact Nat.mod_eq_of_lt h
theorem bAnd64 {x : Nat} (hx : x < 2 ^ 64) (k : Nat) (hk : k ≤ 63) : bAnd .u64 (x : Int) ((2 ^ k - 1 : Nat) : Int) = ((x % 2 ^ k : Nat) : Int) := by
  have h2 : 2 ^ k ≤ 2 ^ 63 := Nat.pow_le_pow_right (by omega) hk
  show IntKind.u64.wrap ((BitVec.ofInt 64 (x : Int) &&& BitVec.ofInt 64 ((2 ^ k - 1 : Nat) : Int)).toNat : Int) = _
  have hm : x % 2 ^ k < 2 ^ 64 := Nat.lt_of_le_of_lt (Nat.mod_le _ _) hx
  rw [BitVec.toNat_and, bv64 hx, bv64 (by omega), Nat.and_two_pow_sub_one_eq_mod, W.wu (by omega) (by omega)]
theorem bOr64 {x y : Nat} (hx : x < 2 ^ 64) (hy : y < 2 ^ 64) : bOr .u64 (x : Int) (y : Int) = ((x ||| y : Nat) : Int) := by
  have := Nat.or_lt_two_pow hx hy
  show IntKind.u64.wrap ((BitVec.ofInt 64 (x : Int) ||| BitVec.ofInt 64 (y : Int)).toNat : Int) = _
  rw [BitVec.toNat_or, bv64 hx, bv64 hy, W.wu (by omega) (by omega)]
theorem low_or {lo x y : Nat} {k : Nat} (hl : lo < 2 ^ k) : (lo + x * 2 ^ k) ||| (y * 2 ^ k) = lo + (x ||| y) * 2 ^ k := by
  have e1 : ∀ z, lo + z * 2 ^ k = 2 ^ k * z + lo := fun z => by rw [Nat.mul_comm, Nat.add_comm]
  have e2 : y * 2 ^ k = 2 ^ k * y + 0 := by rw [Nat.mul_comm]; rfl
  have hp : 0 < 2 ^ k := Nat.two_pow_pos k
  rw [e1, e1, e2]
  refine Nat.eq_of_testBit_eq fun i => ?_
  rw [Nat.testBit_or, Nat.testBit_two_pow_mul_add _ hl, Nat.testBit_two_pow_mul_add _ hp, Nat.testBit_two_pow_mul_add _ hl]
  by_cases h : i < k
  · simp [h]
  · simp [h]
structure SMok (sz nv own all : Nat) : Prop where
  sz : sz < 65536
  nv : nv < 65536
  own : own < 4
  all : all < 4
variable {sz nv own all : Nat}
def smN (sz nv own all : Nat) : Nat := ((all * 4 + own) * 65536 + nv) * 65536 + sz
theorem smN_lt (k : SMok sz nv own all) : smN sz nv own all < 2 ^ 36 := by
  obtain ⟨h1, h2, h3, h4⟩ := k
  unfold smN; omega
theorem SM_eq (sz nv own all : Nat) : SM sz nv own all = (smN sz nv own all : Int) := rfl
theorem fdiv_nat (x k : Nat) : Int.fdiv (x : Int) (2 ^ k) = ((x / 2 ^ k : Nat) : Int) := by
  rw [Int.fdiv_eq_ediv_of_nonneg _ (Int.le_of_lt (Int.pow_pos (by decide)))]
  push_cast; rfl
theorem sm_own (k : SMok sz nv own all) : bAnd .u64 (Int.fdiv (SM sz nv own all) (2 ^ 32)) 3 = (own : Int) := by
  have := smN_lt k
  rw [SM_eq, fdiv_nat, show (3 : Int) = ((2 ^ 2 - 1 : Nat) : Int) from rfl, bAnd64 (by omega) 2 (by omega)]
  have e : smN sz nv own all / 2 ^ 32 % 2 ^ 2 = own := by have := k.sz; have := k.nv; have := k.own; unfold smN; omega
  rw [e]
theorem sm_all (k : SMok sz nv own all) : bAnd .u64 (Int.fdiv (SM sz nv own all) (2 ^ 34)) 3 = (all : Int) := by
  have := smN_lt k
  rw [SM_eq, fdiv_nat, show (3 : Int) = ((2 ^ 2 - 1 : Nat) : Int) from rfl, bAnd64 (by omega) 2 (by omega)]
  have e : smN sz nv own all / 2 ^ 34 % 2 ^ 2 = all := by have := k.sz; have := k.nv; have := k.own; have := k.all; unfold smN; omega
  rw [e]
theorem sm_counts (k : SMok sz nv own all) : bAnd .u64 (SM sz nv own all) 4294967295 = ((nv * 65536 + sz : Nat) : Int) := by
  have := smN_lt k
  rw [SM_eq, show (4294967295 : Int) = ((2 ^ 32 - 1 : Nat) : Int) from rfl, bAnd64 (by omega) 32 (by omega)]
  have e : smN sz nv own all % 2 ^ 32 = nv * 65536 + sz := by have := k.sz; have := k.nv; unfold smN; omega
  rw [e]
/-- A child's sum is added. -/
theorem sm_add {sz2 nv2 own2 all2 : Nat} (k : SMok sz nv own all) (k2 : SMok sz2 nv2 own2 all2) (hs : sz + sz2 < 65536) (hn : nv + nv2 < 65536) :
    bOr .u64 (IntKind.wrap .u64 (SM sz nv own all + bAnd .u64 (SM sz2 nv2 own2 all2) 4294967295)) (IntKind.wrap .u64 (bAnd .u64 (Int.fdiv (SM sz2 nv2 own2 all2) (2 ^ 34)) 3 * 2 ^ 34)) = SM (sz + sz2) (nv + nv2) own (all ||| all2) := by
  have l1 := smN_lt k
  rw [sm_counts k2, sm_all k2]
  have l2 : smN (sz + sz2) (nv + nv2) own all < 2 ^ 36 := smN_lt ⟨hs, hn, k.own, k.all⟩
  have e0 : smN sz nv own all + (nv2 * 65536 + sz2) = smN (sz + sz2) (nv + nv2) own all := by unfold smN; omega
  have e1 : SM sz nv own all + ((nv2 * 65536 + sz2 : Nat) : Int) = ((smN (sz + sz2) (nv + nv2) own all : Nat) : Int) := by
    rw [SM_eq, ← Int.natCast_add, e0]
  rw [e1, W.wu (by omega) (by omega)]
  have p34 : (2 : Int) ^ 34 = ((2 ^ 34 : Nat) : Int) := by decide
  have e2 : ((all2 : Nat) : Int) * 2 ^ 34 = ((all2 * 2 ^ 34 : Nat) : Int) := by rw [p34, ← Int.natCast_mul]
  have := k2.all
  rw [e2, W.wu (by omega) (by omega), bOr64 (by omega) (by omega)]
  have e3 : smN (sz + sz2) (nv + nv2) own all = ((own * 65536 + (nv + nv2)) * 65536 + (sz + sz2)) + all * 2 ^ 34 := by unfold smN; omega
  have hl : (own * 65536 + (nv + nv2)) * 65536 + (sz + sz2) < 2 ^ 34 := by have := k.own; omega
  have lo := low_or (x := all) (y := all2) hl
  have fin : smN (sz + sz2) (nv + nv2) own all ||| all2 * 2 ^ 34 = smN (sz + sz2) (nv + nv2) own (all ||| all2) := by
    refine (congrArg (fun z => z ||| all2 * 2 ^ 34) e3).trans (lo.trans ?_)
    unfold smN; omega
  exact congrArg (fun z : Nat => (z : Int)) fin
theorem sm_lone {m : Nat} (hm : m < 4) (v : Bool) : (bif v then bOr .u64 (bOr .u64 (bOr .u64 1 (IntKind.wrap .u64 ((m : Int) * 2 ^ 32))) (IntKind.wrap .u64 ((m : Int) * 2 ^ 34))) 65536 else bOr .u64 (bOr .u64 1 (IntKind.wrap .u64 ((m : Int) * 2 ^ 32))) (IntKind.wrap .u64 ((m : Int) * 2 ^ 34))) = SM 1 (bif v then 1 else 0) m m := by
  have : m = 0 ∨ m = 1 ∨ m = 2 ∨ m = 3 := by omega
  rcases this with rfl | rfl | rfl | rfl <;> cases v <;> decide +kernel
theorem SM0 : SM 0 0 0 0 = 0 := by decide
theorem smok_tr {mk : Int → Nat} {vx : Int → Bool} (hm : ∀ x, mk x < 4) (t : Tr) (h : t.sz < 65536) : ∃ o, SMok t.sz (t.nv vx) o (t.am mk) ∧ t.sm mk vx = SM t.sz (t.nv vx) o (t.am mk) := by
  have h1 := t.nv_le vx
  have h2 := t.am_lt hm
  cases t with
  | nil => exact ⟨0, ⟨h, by show 0 < 65536; omega, by omega, h2⟩, SM0.symm⟩
  | nd l x r => exact ⟨mk x, ⟨h, by omega, hm x, h2⟩, rfl⟩
/-! ### The functions -/
variable {md : Md} {h hh : Heap} {a b : Nat} {V S T x v p f : Int} {l c : List Int} {l0 : Int → Int} {s s' : NS}
/-- An arena that has nodes so. -/
def TH (V S T : Int) (l0 : Int → Int) (a b : Nat) (s : NS) (h : Heap) : Prop := ∃ l c, Ar h a b l c ∧ Rep V S T l0 l s
theorem TH.app (A : TH V S T l0 a b s h) (bs : Heap) : TH V S T l0 a b s (h ++ bs) := let ⟨l, c, A, R⟩ := A; ⟨l, c, A.app bs, R⟩
theorem TH.la (A : TH V S T l0 a b s h) : a < h.length ∧ b < h.length := let ⟨l, c, A, R⟩ := A; ⟨lt_of A.ha, lt_of A.hb⟩
theorem TH.take {n : Nat} (A : TH V S T l0 a b s h) (ha : a < n) (hb : b < n) : TH V S T l0 a b s (h.take n) := let ⟨l, c, A, R⟩ := A; ⟨l, c, A.take ha hb, R⟩
theorem TH.old {h' : Heap} (A : TH V S T l0 a b s h) (ha : h'[a]? = h[a]?) (hb : h'[b]? = h[b]?) : TH V S T l0 a b s h' := let ⟨l, c, A, R⟩ := A; ⟨l, c, A.same ha hb, R⟩
/-- The block of a call's own trees. -/
theorem tvB {k : Heap} (la : a < h.length) (lb : b < h.length) (o : Only a b (h ++ [Blk.own [(Value.int .i64 V), (Value.int .i64 S), (Value.int .i64 T), ifA a, (Value.int .i64 1), (Value.int .i64 0)]]) k) : k[h.length]? = some (.own [(Value.int .i64 V), (Value.int .i64 S), (Value.int .i64 T), ifA a, (Value.int .i64 1), (Value.int .i64 0)]) := by
  have := o.new la lb 0
  rw [Nat.add_zero] at this
  rw [this]; rfl
theorem tv6 {k : Heap} (e : k[h.length]? = some (.own [(Value.int .i64 V), (Value.int .i64 S), (Value.int .i64 T), ifA a, (Value.int .i64 1), (Value.int .i64 0)])) : rdN k h.length 0 6 = some [(Value.int .i64 V), (Value.int .i64 S), (Value.int .i64 T), ifA a, (Value.int .i64 1), (Value.int .i64 0)] := by rw [rdN_own e (by simp)]; rfl
theorem tv3 {k : Heap} (e : k[h.length]? = some (.own [(Value.int .i64 V), (Value.int .i64 S), (Value.int .i64 T), ifA a, (Value.int .i64 1), (Value.int .i64 0)])) : rdN k h.length 0 3 = some [(Value.int .i64 V), (Value.int .i64 S), (Value.int .i64 T)] := by rw [rdN_own e (by simp)]; rfl
theorem tvm {k : Heap} (e : k[h.length]? = some (.own [(Value.int .i64 V), (Value.int .i64 S), (Value.int .i64 T), ifA a, (Value.int .i64 1), (Value.int .i64 0)])) : rd k h.length 3 = some (ifA a) := by rw [rd_own e]; rfl
theorem lkeep {k : Heap} (o : Only a b (h ++ [Blk.own [(Value.int .i64 V), (Value.int .i64 S), (Value.int .i64 T), ifA a, (Value.int .i64 1), (Value.int .i64 0)]]) k) : k.length = h.length + 1 := by rw [o.len]; simp
abbrev Nix (V S : Int) (x : Int) : Prop := 1 ≤ x ∧ x ≤ Nn V S
theorem fx_of (hR : Rt V S T) (hx : Nix V S x) (hf : 0 ≤ f ∧ f < 7) : Fx V S T x f = qN V S T x + f := ((fx_in (b := f) hR).1 (by rw [Bl_t.2 ⟨by omega, by omega⟩, Bl_t.2 hf]; rfl)).1
theorem fs_of (hR : Rt V S T) (hx : Nix V S x) (hf : 0 ≤ f ∧ f < 7) (m : Md) (h : Heap) : C m 54 [(Value.agg #[(Value.int .i64 V), (Value.int .i64 S), (Value.int .i64 T)]), (Value.int .i64 x), (Value.int .i64 f)] h = some ((Value.int .i64 (qN V S T x + f)), h) := by
  have := Cn_le hR
  rw [field_s m h hR ⟨by omega, by omega⟩, fx_of hR hx hf]
/-- A field is told. -/
theorem rget_e (hR : Rt V S T) (A : Ar h a b l c) (hro : md.ro ≤ a) (hx : Nix V S x) (hf : 0 ≤ f ∧ f < 7) :
    ∃ h' c', C md 76 [(Value.agg #[(Value.int .i64 V), (Value.int .i64 S), (Value.int .i64 T), ifA a, (Value.int .i64 1), (Value.int .i64 0)]), (Value.int .i64 x), (Value.int .i64 f)] h = some ((Value.int .i64 (IntKind.wrap .i64 (getI l (qN V S T x + f)))), h') ∧ Ar h' a b l c' ∧ Only a b h h' := by
  have la := lt_of A.ha
  have lb := lt_of A.hb
  have fs := fun (m : Md) (h : Heap) => fs_of hR hx hf m h
  obtain ⟨h3, e3, A3, o3⟩ := pl_x (md := ⟨md.ro, h.length⟩) (A.app [Blk.own [(Value.int .i64 V), (Value.int .i64 S), (Value.int .i64 T), ifA a, (Value.int .i64 1), (Value.int .i64 0)]]) hro (qN V S T x + f)
  refine ⟨h3.take h.length, _, ?_, A3.take la lb, o3.take⟩
  rw [C, call_eq, F76_eq]
  unfold F76
  simp only [go_sem, Nat.reduceAdd, Nat.reduceLeDiff, Nat.reduceMul, Int.reduceBEq, Int.reduceBNe, Int.reduceLT, Int.reduceLE, Int.reduceGT, fs, okN_i, clI_load, e3]
theorem tget3 (hR : Rt V S T) (A : TH V S T l0 a b s h) (hro : md.ro ≤ a) (hx : Nix V S x) (hv : 0 ≤ s.lf x ∧ s.lf x < 100000) :
    ∃ h', C md 76 [(Value.agg #[(Value.int .i64 V), (Value.int .i64 S), (Value.int .i64 T), ifA a, (Value.int .i64 1), (Value.int .i64 0)]), (Value.int .i64 x), (Value.int .i64 3)] h = some ((Value.int .i64 (s.lf x)), h') ∧ TH V S T l0 a b s h' ∧ Only a b h h' := by
  obtain ⟨l, c, A, R⟩ := A
  obtain ⟨h', c', e, A', o⟩ := rget_e hR A hro hx (f := 3) (by omega)
  rw [R.lf x hx.1 hx.2, wi (by omega) (by omega)] at e
  exact ⟨h', e, ⟨l, c', A', R⟩, o⟩
theorem tget4 (hR : Rt V S T) (A : TH V S T l0 a b s h) (hro : md.ro ≤ a) (hx : Nix V S x) (hv : 0 ≤ s.rt x ∧ s.rt x < 100000) :
    ∃ h', C md 76 [(Value.agg #[(Value.int .i64 V), (Value.int .i64 S), (Value.int .i64 T), ifA a, (Value.int .i64 1), (Value.int .i64 0)]), (Value.int .i64 x), (Value.int .i64 4)] h = some ((Value.int .i64 (s.rt x)), h') ∧ TH V S T l0 a b s h' ∧ Only a b h h' := by
  obtain ⟨l, c, A, R⟩ := A
  obtain ⟨h', c', e, A', o⟩ := rget_e hR A hro hx (f := 4) (by omega)
  rw [R.rt x hx.1 hx.2, wi (by omega) (by omega)] at e
  exact ⟨h', e, ⟨l, c', A', R⟩, o⟩
/-- A node's sum; of none, 0. -/
def sumV (s : NS) (x : Int) : Int := if x = 0 then 0 else s.sm x
theorem tsum (hR : Rt V S T) (A : TH V S T l0 a b s h) (hro : md.ro ≤ a) (hx : x = 0 ∨ Nix V S x) :
    ∃ h', C md 65 [(Value.agg #[(Value.int .i64 V), (Value.int .i64 S), (Value.int .i64 T), ifA a, (Value.int .i64 1), (Value.int .i64 0)]), (Value.int .i64 x)] h = some ((Value.int .u64 (sumV s x)), h') ∧ TH V S T l0 a b s h' ∧ Only a b h h' := by
  obtain ⟨l, c, A, R⟩ := A
  have la := lt_of A.ha
  have lb := lt_of A.hb
  rcases hx with rfl | hx
  · have o : Only a b (h ++ [Blk.own [(Value.int .i64 V), (Value.int .i64 S), (Value.int .i64 T), ifA a, (Value.int .i64 1), (Value.int .i64 0)]]) (h ++ [Blk.own [(Value.int .i64 V), (Value.int .i64 S), (Value.int .i64 T), ifA a, (Value.int .i64 1), (Value.int .i64 0)]]) := Only.refl
    refine ⟨(h ++ [Blk.own [(Value.int .i64 V), (Value.int .i64 S), (Value.int .i64 T), ifA a, (Value.int .i64 1), (Value.int .i64 0)]]).take h.length, ?_, ⟨l, c, (A.app _).take la lb, R⟩, o.take⟩
    have e : sumV s 0 = 0 := if_pos rfl
    rw [C, call_eq, F65_eq]
    unfold F65
    simp only [go_sem, Nat.reduceAdd, Nat.reduceLeDiff, Nat.reduceMul, Int.reduceBEq, Int.reduceBNe, Int.reduceLT, Int.reduceLE, Int.reduceGT, e, take_app]
  · have fs := fun (m : Md) (h : Heap) => fs_of hR hx (f := 6) (by omega) m h
    obtain ⟨h3, e3, A3, o3⟩ := pl_x (md := ⟨md.ro, h.length⟩) (A.app [Blk.own [(Value.int .i64 V), (Value.int .i64 S), (Value.int .i64 T), ifA a, (Value.int .i64 1), (Value.int .i64 0)]]) hro (qN V S T x + 6)
    rw [R.sm x hx.1 hx.2] at e3
    have e : sumV s x = s.sm x := if_neg (by omega)
    have x0 : (x == 0) = false := by simp; omega
    refine ⟨h3.take h.length, ?_, ⟨l, _, A3.take la lb, R⟩, o3.take⟩
    rw [C, call_eq, F65_eq]
    unfold F65
    simp only [go_sem, Nat.reduceAdd, Nat.reduceLeDiff, Nat.reduceMul, Int.reduceBEq, Int.reduceBNe, Int.reduceLT, Int.reduceLE, Int.reduceGT, x0, fs, okN_i, clI_load, e3, e]
theorem tmarks (hR : Rt V S T) (A : TH V S T l0 a b s h) (hro : md.ro ≤ a) (hx : x = 0 ∨ Nix V S x) (k : SMok sz nv own all) (hs : sumV s x = SM sz nv own all) :
    ∃ h', C md 48 [(Value.agg #[(Value.int .i64 V), (Value.int .i64 S), (Value.int .i64 T), ifA a, (Value.int .i64 1), (Value.int .i64 0)]), (Value.int .i64 x)] h = some ((Value.int .u64 ((own : Int))), h') ∧ TH V S T l0 a b s h' ∧ Only a b h h' := by
  obtain ⟨la, lb⟩ := A.la
  obtain ⟨k1, e1, A1, o1⟩ := tsum (md := ⟨md.ro, h.length⟩) hR (A.app [Blk.own [(Value.int .i64 V), (Value.int .i64 S), (Value.int .i64 T), ifA a, (Value.int .i64 1), (Value.int .i64 0)]]) hro hx
  have so := sm_own k
  refine ⟨k1.take h.length, ?_, A1.take la lb, o1.take⟩
  rw [C, call_eq, F48_eq]
  unfold F48
  rw [hs] at e1
  simp only [go_sem, Nat.reduceAdd, Nat.reduceLeDiff, Nat.reduceMul, Int.reduceBEq, Int.reduceBNe, Int.reduceLT, Int.reduceLE, Int.reduceGT, e1, so]
end Go.Det.E

/- Trees in memory: a node's parent, its sum anew, another child. -/
namespace Go.Det.E
open Go.Proofs Go.Det Go.Det.U
attribute [local congr] bind_c cond_c
variable {md : Md} {h hh : Heap} {a b : Nat} {V S T x v p f : Int} {l c : List Int} {l0 : Int → Int} {s s' : NS} {sz nv own all : Nat}
theorem ptrnew_e (A : Ar h a b l c) (w : Wd l) (hro : md.ro ≤ a) (hr : md.ro ≤ h.length) (x : Int) (hb : W.rightB (getI l x) = true) :
    ∃ h' c', C md 78 [ifA a, (Value.int .i64 x)] h = some ((Value.int .i64 (getI l x % 65536)), h') ∧ Ar h' a b l c' ∧ Only a b h h' := by
  have la := lt_of A.ha
  have lb := lt_of A.hb
  obtain ⟨h3, e3, A3, o3⟩ := pl_x (md := ⟨md.ro, h.length⟩) A hro x
  have g := w.get x
  have l3 := o3.len
  have u := fun (m : Md) (h : Heap) => W.unpack_s (v := getI l x) g.1 g.2 m h
  simp only [hb, cond_true] at u
  have st4 := fun (hq : Heap) (k' : Heap → Option (Value × Heap)) => st_N ⟨md.ro, h.length⟩ 4 h3.length 0 [(Value.int .i64 (getI l x / 65536 % 65536)), (Value.int .i64 (getI l x % 65536)), (Value.int .i64 (getI l x / 4294967296 % 256)), (Value.int .i64 (getI l x / 1099511627776))] hq k' rfl rfl
  have r2 : md.ro ≤ h3.length := by omega
  have r3 : h.length ≤ h3.length := by omega
  have tk : (h3 ++ [Blk.own [(Value.int .i64 (getI l x / 65536 % 65536)), (Value.int .i64 (getI l x % 65536)), (Value.int .i64 (getI l x / 4294967296 % 256)), (Value.int .i64 (getI l x / 1099511627776))]]).take h.length = h3 := by rw [← l3]; simp
  refine ⟨h3, _, ?_, A3, o3⟩
  rw [C, call_eq, F78_eq]
  unfold F78
  simp only [go_sem, Nat.reduceAdd, Nat.reduceLeDiff, Nat.reduceMul, Int.reduceBEq, Int.reduceBNe, Int.reduceLT, Int.reduceLE, Int.reduceGT, clI_load, e3, u, st4, r2, r3, tk]
theorem tparent (hR : Rt V S T) (A : TH V S T l0 a b s h) (hro : md.ro ≤ a) (hr : md.ro ≤ h.length) (hx : Nix V S x) (hv : 0 ≤ s.par x ∧ s.par x < 100000) :
    ∃ h', C md 73 [(Value.agg #[(Value.int .i64 V), (Value.int .i64 S), (Value.int .i64 T), ifA a, (Value.int .i64 1), (Value.int .i64 0)]), (Value.int .i64 x)] h = some ((Value.int .i64 (s.par x)), h') ∧ TH V S T l0 a b s h' ∧ Only a b h h' := by
  obtain ⟨l, c, A, R⟩ := A
  have la := lt_of A.ha
  have lb := lt_of A.hb
  have lh : md.ro ≤ (h ++ [Blk.own [(Value.int .i64 V), (Value.int .i64 S), (Value.int .i64 T), ifA a, (Value.int .i64 1), (Value.int .i64 0)]]).length := by simp; omega
  have sh := shown_e (md := ⟨md.ro, h.length⟩) (h := h ++ [Blk.own [(Value.int .i64 V), (Value.int .i64 S), (Value.int .i64 T), ifA a, (Value.int .i64 1), (Value.int .i64 0)]]) hR (x := x) (Bl_t.2 ⟨by omega, by omega⟩) (ifA a) 1 0 lh
  cases hs : (lvlB V x == 0)
  · have hs' : lvlB V x ≠ 0 := by simpa using hs
    obtain ⟨h3, c3, e3, A3, o3⟩ := rget_e (md := ⟨md.ro, h.length⟩) hR (A.app [Blk.own [(Value.int .i64 V), (Value.int .i64 S), (Value.int .i64 T), ifA a, (Value.int .i64 1), (Value.int .i64 0)]]) hro hx (f := 2) (by omega)
    rw [R.ns x hx.1 hx.2 hs', wi (by omega) (by omega)] at e3
    refine ⟨h3.take h.length, ?_, ⟨l, _, A3.take la lb, R⟩, o3.take⟩
    rw [hs] at sh
    rw [C, call_eq, F73_eq]
    unfold F73
    simp only [go_sem, Nat.reduceAdd, Nat.reduceLeDiff, Nat.reduceMul, Int.reduceBEq, Int.reduceBNe, Int.reduceLT, Int.reduceLE, Int.reduceGT, sh, e3]
  · have hs' : lvlB V x = 0 := by simpa using hs
    obtain ⟨q1, q2⟩ := R.sh x hx.1 hx.2 hs'
    obtain ⟨h3, c3, e3, A3, o3⟩ := ptrnew_e (md := ⟨md.ro, h.length⟩) (A.app [Blk.own [(Value.int .i64 V), (Value.int .i64 S), (Value.int .i64 T), ifA a, (Value.int .i64 1), (Value.int .i64 0)]]) R.wd hro lh (qN V S T x + 2) q1
    rw [q2] at e3
    have fs := fun (m : Md) (h : Heap) => fs_of hR hx (f := 2) (by omega) m h
    refine ⟨h3.take h.length, ?_, ⟨l, _, A3.take la lb, R⟩, o3.take⟩
    rw [hs] at sh
    rw [C, call_eq, F73_eq]
    unfold F73
    simp only [go_sem, Nat.reduceAdd, Nat.reduceLeDiff, Nat.reduceMul, Int.reduceBEq, Int.reduceBNe, Int.reduceLT, Int.reduceLE, Int.reduceGT, sh, fs, e3]
/-- A node hangs under another one. -/
def hangS (s : NS) (x p : Int) : NS := { s with par := if x = 0 then s.par else upI s.par x p }
theorem thang (hR : Rt V S T) (A : TH V S T l0 a b s h) (hro : md.ro ≤ a) (hrb : md.ro ≤ b) (hr : md.ro ≤ h.length) (hx : x = 0 ∨ Nix V S x) (hp : 0 ≤ p ∧ p ≤ 65535) :
    ∃ h', C md 53 [(Value.agg #[(Value.int .i64 V), (Value.int .i64 S), (Value.int .i64 T), ifA a, (Value.int .i64 1), (Value.int .i64 0)]), (Value.int .i64 x), (Value.int .i64 p)] h = some ((Value.tuple #[]), h') ∧ TH V S T l0 a b (hangS s x p) h' ∧ Only a b h h' := by
  obtain ⟨l, c, A, R⟩ := A
  have la := lt_of A.ha
  have lb := lt_of A.hb
  have lh : md.ro ≤ (h ++ [Blk.own [(Value.int .i64 V), (Value.int .i64 S), (Value.int .i64 T), ifA a, (Value.int .i64 1), (Value.int .i64 0)]]).length := by simp; omega
  rcases hx with rfl | hx
  · have o : Only a b (h ++ [Blk.own [(Value.int .i64 V), (Value.int .i64 S), (Value.int .i64 T), ifA a, (Value.int .i64 1), (Value.int .i64 0)]]) (h ++ [Blk.own [(Value.int .i64 V), (Value.int .i64 S), (Value.int .i64 T), ifA a, (Value.int .i64 1), (Value.int .i64 0)]]) := Only.refl
    have e : hangS s 0 p = s := by unfold hangS; simp
    refine ⟨(h ++ [Blk.own [(Value.int .i64 V), (Value.int .i64 S), (Value.int .i64 T), ifA a, (Value.int .i64 1), (Value.int .i64 0)]]).take h.length, ?_, by rw [e]; exact ⟨l, c, (A.app _).take la lb, R⟩, o.take⟩
    rw [C, call_eq, F53_eq]
    unfold F53
    simp only [go_sem, Nat.reduceAdd, Nat.reduceLeDiff, Nat.reduceMul, Int.reduceBEq, Int.reduceBNe, Int.reduceLT, Int.reduceLE, Int.reduceGT, take_app]
  · have e : hangS s x p = { s with par := upI s.par x p } := by unfold hangS; rw [if_neg (by omega)]
    rw [e]
    have x0 : (x == 0) = false := by simp; omega
    have sh := shown_e (md := ⟨md.ro, h.length⟩) (h := h ++ [Blk.own [(Value.int .i64 V), (Value.int .i64 S), (Value.int .i64 T), ifA a, (Value.int .i64 1), (Value.int .i64 0)]]) hR (x := x) (Bl_t.2 ⟨by omega, by omega⟩) (ifA a) 1 0 lh
    cases hs : (lvlB V x == 0)
    · have hs' : lvlB V x ≠ 0 := by simpa using hs
      obtain ⟨h3, c3, e3, A3, o3⟩ := tput_e (md := ⟨md.ro, h.length⟩) hR (A.app [Blk.own [(Value.int .i64 V), (Value.int .i64 S), (Value.int .i64 T), ifA a, (Value.int .i64 1), (Value.int .i64 0)]]) hro hrb lh (x := x) (Bl_t.2 ⟨by omega, by omega⟩) 1 0 2 p
      rw [fx_of hR hx (by omega), W.wu (by omega) (by omega)] at A3
      refine ⟨h3.take h.length, ?_, ⟨_, _, A3.take la lb, R.putPar hR hx.1 hx.2 (by omega) (fun q => absurd q hs') (fun _ => rfl)⟩, o3.take⟩
      rw [hs] at sh
      rw [C, call_eq, F53_eq]
      unfold F53
      simp only [go_sem, Nat.reduceAdd, Nat.reduceLeDiff, Nat.reduceMul, Int.reduceBEq, Int.reduceBNe, Int.reduceLT, Int.reduceLE, Int.reduceGT, x0, sh, e3]
    · have hs' : lvlB V x = 0 := by simpa using hs
      obtain ⟨q1, q2⟩ := R.sh x hx.1 hx.2 hs'
      obtain ⟨g1, g2, g3, g4⟩ := ch_is (p := p) (getI l (qN V S T x + 2)) q1 hp (R.wd.get _)
      obtain ⟨h3, e3, A3, o3⟩ := write_e (md := ⟨md.ro, h.length⟩) (A.app [Blk.own [(Value.int .i64 V), (Value.int .i64 S), (Value.int .i64 T), ifA a, (Value.int .i64 1), (Value.int .i64 0)]]) hro hrb lh R.wd (x := qN V S T x + 2) (y := p) (th := 1) (tag := 0) rfl
      have ec : chL l (qN V S T x + 2) (olW 1 0 (getI l (qN V S T x + 2))) p 1 0 = putI l (qN V S T x + 2) (W.bitsW (olW 1 0 (getI l (qN V S T x + 2))) p 1 0) := by
        unfold chL; rw [q1, g1]; rfl
      rw [ec] at A3
      have fs := fun (m : Md) (h : Heap) => fs_of hR hx (f := 2) (by omega) m h
      refine ⟨h3.take h.length, ?_, ⟨_, _, A3.take la lb, R.putPar hR hx.1 hx.2 g2 (fun _ => ⟨g3, g4⟩) (fun q => absurd hs' q)⟩, o3.take⟩
      rw [hs] at sh
      rw [C, call_eq, F53_eq]
      unfold F53
      simp only [go_sem, Nat.reduceAdd, Nat.reduceLeDiff, Nat.reduceMul, Int.reduceBEq, Int.reduceBNe, Int.reduceLT, Int.reduceLE, Int.reduceGT, x0, sh, fs, e3]
/-- Is a node a vertex's? -/
def vxB (V x : Int) : Bool := decide (x - 1 < Lv V * V)
theorem vx_arc (V x : Int) : arcB V x = !vxB V x := rfl
theorem tlone (hR : Rt V S T) (hx : Nix V S x) (mv : Value) (th tag : Int) (hr : md.ro ≤ h.length) {m : Nat} (hm : m < 4) : C md 55 [(Value.agg #[(Value.int .i64 V), (Value.int .i64 S), (Value.int .i64 T), mv, (Value.int .i64 th), (Value.int .i64 tag)]), (Value.int .i64 x), (Value.int .u64 ((m : Int)))] h = some ((Value.int .u64 (SM 1 (bif vxB V x then 1 else 0) m m)), h) := by
  obtain ⟨vx, sl, sd, e⟩ := node_in hR (x := x) (Bl_t.2 ⟨by omega, by omega⟩)
  have s := fun (α : Type) (m : Md) (b : Nat) (h : Heap) (k : Heap → Option α) => st_N m 5 b 0 (thC (arcB V x) (lvlB V x) vx sl sd) h k rfl rfl
  unfold thC at s e
  have r2 : md.ro ≤ h.length + 1 := by omega
  have sl := sm_lone hm (vxB V x)
  rw [C, call_eq, F55_eq]
  unfold F55
  cases hv : vxB V x
  · rw [vx_arc, hv] at e s
    rw [hv] at sl
    simp only [cond_false] at sl
    simp only [go_sem, Nat.reduceAdd, Nat.reduceLeDiff, Nat.reduceMul, Int.reduceBEq, Int.reduceBNe, Int.reduceLT, Int.reduceLE, Int.reduceGT, e, s, hr, r2, sl]
  · rw [vx_arc, hv] at e s
    rw [hv] at sl
    simp only [cond_true] at sl
    simp only [go_sem, Nat.reduceAdd, Nat.reduceLeDiff, Nat.reduceMul, Int.reduceBEq, Int.reduceBNe, Int.reduceLT, Int.reduceLE, Int.reduceGT, e, s, hr, r2, sl]
theorem tcounts (md : Md) (h : Heap) (v : Int) : C md 77 [(Value.int .u64 v)] h = some ((Value.int .u64 (bAnd .u64 v 4294967295)), h) := by
  rw [C, call_eq, F77_eq]
  unfold F77
  simp only [go_sem, Nat.reduceAdd, Nat.reduceLeDiff, Nat.reduceMul, Int.reduceBEq, Int.reduceBNe, Int.reduceLT, Int.reduceLE, Int.reduceGT]
theorem ix34a {α : Type} (k : Value → Option α) : aIndex Try.prog 78 ((Value.agg #[(Value.int .i64 3), (Value.int .i64 4)])) ((Value.int .i64 0)) k = k ((Value.int .i64 3)) := by kernel_rfl
theorem ix34b {α : Type} (k : Value → Option α) : aIndex Try.prog 78 ((Value.agg #[(Value.int .i64 3), (Value.int .i64 4)])) ((Value.int .i64 1)) k = k ((Value.int .i64 4)) := by kernel_rfl
/-- A child that a node has. -/
abbrev Ch (V S : Int) (x : Int) : Prop := x = 0 ∨ Nix V S x
theorem ch_small (hR : Rt V S T) (h : Ch V S x) : 0 ≤ x ∧ x < 100000 := by
  have := Cn_le hR
  rcases h with rfl | h <;> omega
theorem trenew {m sz1 nv1 o1 a1 sz2 nv2 o2 a2 : Nat} (hR : Rt V S T) (A : TH V S T l0 a b s h) (hro : md.ro ≤ a) (hrb : md.ro ≤ b) (hr : md.ro ≤ h.length) (hx : Nix V S x) (hm : m < 4) (hl : Ch V S (s.lf x)) (hrt : Ch V S (s.rt x))
    (k1 : SMok sz1 nv1 o1 a1) (e1 : sumV s (s.lf x) = SM sz1 nv1 o1 a1) (k2 : SMok sz2 nv2 o2 a2) (e2 : sumV s (s.rt x) = SM sz2 nv2 o2 a2) (hs : sz1 + sz2 + 1 < 65536) (hn : nv1 + nv2 + 1 < 65536) :
    ∃ h', C md 72 [(Value.agg #[(Value.int .i64 V), (Value.int .i64 S), (Value.int .i64 T), ifA a, (Value.int .i64 1), (Value.int .i64 0)]), (Value.int .i64 x), (Value.int .u64 ((m : Int)))] h = some ((Value.tuple #[]), h') ∧ TH V S T l0 a b { s with sm := upI s.sm x (SM (1 + sz1 + sz2) ((bif vxB V x then 1 else 0) + nv1 + nv2) m ((m ||| a1) ||| a2)) } h' ∧ Only a b h h' := by
  obtain ⟨la, lb⟩ := A.la
  have lh : md.ro ≤ (h ++ [Blk.own [(Value.int .i64 V), (Value.int .i64 S), (Value.int .i64 T), ifA a, (Value.int .i64 1), (Value.int .i64 0)]]).length := by simp; omega
  have lo := tlone (md := ⟨md.ro, h.length⟩) (h := h ++ [Blk.own [(Value.int .i64 V), (Value.int .i64 S), (Value.int .i64 T), ifA a, (Value.int .i64 1), (Value.int .i64 0)]]) hR hx (ifA a) 1 0 lh hm
  have kl : SMok 1 (bif vxB V x then 1 else 0) m m := ⟨by omega, by cases vxB V x <;> simp, hm, hm⟩
  have bl : (bif vxB V x then 1 else 0) ≤ 1 := by cases vxB V x <;> simp
  have s1 := ch_small hR hl
  have s2 := ch_small hR hrt
  -- the left child
  obtain ⟨g1, f1, A1, o1'⟩ := tget3 (md := ⟨md.ro, h.length⟩) hR (A.app [Blk.own [(Value.int .i64 V), (Value.int .i64 S), (Value.int .i64 T), ifA a, (Value.int .i64 1), (Value.int .i64 0)]]) hro hx s1
  have b1 := tvB (V := V) (S := S) (T := T) la lb o1'
  have t1 := tv6 b1
  obtain ⟨g2, f2, A2, o2'⟩ := tsum (md := ⟨md.ro, h.length⟩) hR A1 hro hl
  rw [e1] at f2
  have o12 := o1'.trans o2'
  have b2 := tvB (V := V) (S := S) (T := T) la lb o12
  have t2 := tv6 b2
  have ad1 := sm_add kl k1 (by omega) (by omega)
  have ko : SMok (1 + sz1) ((bif vxB V x then 1 else 0) + nv1) m (m ||| a1) := ⟨by omega, by omega, hm, Nat.or_lt_two_pow (n := 2) hm k1.all⟩
  -- the right child
  obtain ⟨g3, f3, A3, o3'⟩ := tget4 (md := ⟨md.ro, h.length⟩) hR A2 hro hx s2
  have o13 := o12.trans o3'
  have b3 := tvB (V := V) (S := S) (T := T) la lb o13
  have t3 := tv6 b3
  obtain ⟨g4, f4, A4, o4'⟩ := tsum (md := ⟨md.ro, h.length⟩) hR A3 hro hrt
  rw [e2] at f4
  have o14 := o13.trans o4'
  have b4 := tvB (V := V) (S := S) (T := T) la lb o14
  have t4 := tv3 b4
  have t5 := tvm b4
  have ad2 := sm_add ko k2 (by omega) (by omega)
  have k3 : SMok (1 + sz1 + sz2) ((bif vxB V x then 1 else 0) + nv1 + nv2) m ((m ||| a1) ||| a2) := ⟨by omega, by omega, hm, Nat.or_lt_two_pow (n := 2) ko.all k2.all⟩
  have fs := fun (m : Md) (h : Heap) => fs_of hR hx (f := 6) (by omega) m h
  obtain ⟨l, c, A4, R⟩ := A4
  obtain ⟨g5, f5, A5, o5'⟩ := ps_x (md := ⟨md.ro, h.length⟩) A4 hro hrb (qN V S T x + 6) (SM (1 + sz1 + sz2) ((bif vxB V x then 1 else 0) + nv1 + nv2) m ((m ||| a1) ||| a2))
  have l3 := smN_lt k3
  have l1 := o14.trans o5'
  refine ⟨g5.take h.length, ?_, ⟨_, _, A5.take la lb, R.putSm hR hx.1 hx.2 (by rw [SM_eq]; omega)⟩, l1.take⟩
  have w1 : IntKind.wrap .i64 ((0 : Int) + 1) = 1 := by decide
  have w2 : IntKind.wrap .i64 ((1 : Int) + 1) = 2 := by decide
  have c0 : (0 : Int) < 2 := by decide
  have c1 : (1 : Int) < 2 := by decide
  have c2 : ¬ (2 : Int) < 2 := by decide
  have cn := tcounts
  rw [C, call_eq, F72_eq]
  unfold F72
  simp only [go_sem, Nat.reduceAdd, Nat.reduceLeDiff, Nat.reduceMul, Int.reduceBEq, Int.reduceBNe, Int.reduceLT, Int.reduceLE, Int.reduceGT, lo]
  rw [J72_0_step]
  unfold Jr72_0
  simp only [go_sem, Nat.reduceAdd, Nat.reduceLeDiff, Nat.reduceMul, Int.reduceBEq, Int.reduceBNe, Int.reduceLT, Int.reduceLE, Int.reduceGT, aBin_lss, c0, ix34a, f1, t1, f2, cn, aBin_add, aBin_or, ad1, w1, cLE_t]
  rw [J72_0_step]
  unfold Jr72_0
  simp only [go_sem, Nat.reduceAdd, Nat.reduceLeDiff, Nat.reduceMul, Int.reduceBEq, Int.reduceBNe, Int.reduceLT, Int.reduceLE, Int.reduceGT, aBin_lss, c1, ix34b, t2, f3, t3, f4, cn, aBin_add, aBin_or, ad2, w2, cLE_t]
  rw [J72_0_step]
  unfold Jr72_0
  simp only [go_sem, Nat.reduceAdd, Nat.reduceLeDiff, Nat.reduceMul, Int.reduceBEq, Int.reduceBNe, Int.reduceLT, Int.reduceLE, Int.reduceGT, aBin_lss, c2, Jk72_0, J72_1, t4, t5, fs, okN_i, clI_store, f5]
end Go.Det.E

/- Trees in memory: split and merged. -/
namespace Go.Det.E
open Go.Proofs Go.Det Go.Det.U
attribute [local congr] bind_c cond_c
variable {md : Md} {h hh : Heap} {a b : Nat} {V S T x v p f : Int} {l c : List Int} {l0 : Int → Int} {s s' : NS} {sz nv own all : Nat} {mk : Int → Nat}
theorem tput3 {v : Int} (hR : Rt V S T) (A : TH V S T l0 a b s h) (hro : md.ro ≤ a) (hrb : md.ro ≤ b) (hr : md.ro ≤ h.length) (hx : Nix V S x) (hv : 0 ≤ v ∧ v < 100000) :
    ∃ h', C md 52 [(Value.agg #[(Value.int .i64 V), (Value.int .i64 S), (Value.int .i64 T), ifA a, (Value.int .i64 1), (Value.int .i64 0)]), (Value.int .i64 x), (Value.int .i64 3), (Value.int .i64 v)] h = some ((Value.tuple #[]), h') ∧ TH V S T l0 a b { s with lf := upI s.lf x v } h' ∧ Only a b h h' := by
  obtain ⟨l, c, A, R⟩ := A
  obtain ⟨h', c', e, A', o⟩ := tput_e (md := md) hR A hro hrb hr (x := x) (Bl_t.2 ⟨by omega, by omega⟩) 1 0 3 v
  rw [fx_of hR hx (by omega), W.wu (by omega) (by omega)] at A'
  exact ⟨h', e, ⟨_, _, A', R.putLf hR hx.1 hx.2 (by omega)⟩, o⟩
theorem tput4 {v : Int} (hR : Rt V S T) (A : TH V S T l0 a b s h) (hro : md.ro ≤ a) (hrb : md.ro ≤ b) (hr : md.ro ≤ h.length) (hx : Nix V S x) (hv : 0 ≤ v ∧ v < 100000) :
    ∃ h', C md 52 [(Value.agg #[(Value.int .i64 V), (Value.int .i64 S), (Value.int .i64 T), ifA a, (Value.int .i64 1), (Value.int .i64 0)]), (Value.int .i64 x), (Value.int .i64 4), (Value.int .i64 v)] h = some ((Value.tuple #[]), h') ∧ TH V S T l0 a b { s with rt := upI s.rt x v } h' ∧ Only a b h h' := by
  obtain ⟨l, c, A, R⟩ := A
  obtain ⟨h', c', e, A', o⟩ := tput_e (md := md) hR A hro hrb hr (x := x) (Bl_t.2 ⟨by omega, by omega⟩) 1 0 4 v
  rw [fx_of hR hx (by omega), W.wu (by omega) (by omega)] at A'
  exact ⟨h', e, ⟨_, _, A', R.putRt hR hx.1 hx.2 (by omega)⟩, o⟩
theorem nix_small (hR : Rt V S T) (h : Nix V S x) : 1 ≤ x ∧ x ≤ 560 := by have := Cn_le hR; omega
theorem sum_of {t : Tr} (B : IsB mk (vxB V) s t) (h0 : ∀ y ∈ t.row, 1 ≤ y) : sumV s t.rt = t.sm mk (vxB V) := by
  cases t with
  | nil => rfl
  | nd l x r =>
    have := h0 x (by simp [Tr.row])
    have e : sumV s x = s.sm x := if_neg (by omega)
    exact (show sumV s x = _ from e.trans B.2.2.1)
theorem rt_ch {t : Tr} (h0 : ∀ y ∈ t.row, Nix V S y) : Ch V S t.rt := by
  cases t with
  | nil => exact .inl rfl
  | nd l x r => exact .inr (h0 x (by simp [Tr.row]))
theorem sm_nd (mk : Int → Nat) (vx : Int → Bool) (l r : Tr) (x : Int) : (Tr.nd l x r).sm mk vx = SM (1 + l.sz + r.sz) ((bif vx x then 1 else 0) + l.nv vx + r.nv vx) (mk x) ((mk x ||| l.am mk) ||| r.am mk) := by
  show SM (l.sz + r.sz + 1) _ _ _ = _
  rw [show l.sz + r.sz + 1 = 1 + l.sz + r.sz by omega, show l.nv vx + r.nv vx + (bif vx x then 1 else 0) = (bif vx x then 1 else 0) + l.nv vx + r.nv vx by omega]
/-- A tree's parts. -/
structure Parts (V S : Int) (l : Tr) (x : Int) (r : Tr) : Prop where
  nl : l.row.Nodup
  nr : r.row.Nodup
  xl : x ∉ l.row
  xr : x ∉ r.row
  lr : ∀ y ∈ l.row, y ∉ r.row
theorem parts_of {l r : Tr} {x : Int} (h : (l.row ++ x :: r.row).Nodup) : Parts V S l x r := by
  obtain ⟨h1, h2, h3⟩ := List.nodup_append.1 h
  obtain ⟨h4, h5⟩ := List.nodup_cons.1 h2
  exact ⟨h1, h5, fun q => h3 x q x (by simp) rfl, h4, fun y hy q => h3 y hy y (by simp [q]) rfl⟩
end Go.Det.E

/- Trees in memory: merged. -/
namespace Go.Det.U
end Go.Det.U
namespace Go.Det.E
open Go.Proofs Go.Det Go.Det.U
attribute [local congr] bind_c cond_c
variable {md : Md} {h hh : Heap} {a b : Nat} {V S T x v p f : Int} {l c : List Int} {l0 : Int → Int} {s s' : NS} {sz nv own all : Nat} {mk : Int → Nat}
end Go.Det.E

/- Trees in memory: alone, split, merged and marked, each under none. -/
namespace Go.Det.E
open Go.Proofs Go.Det Go.Det.U
attribute [local congr] bind_c cond_c
variable {md : Md} {h hh : Heap} {a b : Nat} {V S T x v p f : Int} {l c : List Int} {l0 : Int → Int} {s s' : NS} {sz nv own all : Nat} {mk : Int → Nat} {vx : Int → Bool}
/-- A node alone. -/
def aloneS (V : Int) (s : NS) (x : Int) : NS := { par := upI s.par x 0, lf := upI s.lf x 0, rt := upI s.rt x 0, sm := upI s.sm x (SM 1 (bif vxB V x then 1 else 0) 0 0) }
theorem tAlone (hR : Rt V S T) (A : TH V S T l0 a b s h) (hro : md.ro ≤ a) (hrb : md.ro ≤ b) (hr : md.ro ≤ h.length) (hx : Nix V S x) :
    ∃ h', C md 28 [(Value.agg #[(Value.int .i64 V), (Value.int .i64 S), (Value.int .i64 T), ifA a, (Value.int .i64 1), (Value.int .i64 0)]), (Value.int .i64 x)] h = some ((Value.tuple #[]), h') ∧ TH V S T l0 a b (aloneS V s x) h' ∧ Only a b h h' := by
  obtain ⟨la, lb⟩ := A.la
  have lh : md.ro ≤ (h ++ [Blk.own [(Value.int .i64 V), (Value.int .i64 S), (Value.int .i64 T), ifA a, (Value.int .i64 1), (Value.int .i64 0)]]).length := by simp; omega
  obtain ⟨g1, f1, A1, o1⟩ := tput3 (md := ⟨md.ro, h.length⟩) (v := 0) hR (A.app [Blk.own [(Value.int .i64 V), (Value.int .i64 S), (Value.int .i64 T), ifA a, (Value.int .i64 1), (Value.int .i64 0)]]) hro hrb lh hx ⟨by omega, by omega⟩
  have t1 := tv6 (tvB (V := V) (S := S) (T := T) la lb o1)
  have l1 := lkeep o1
  obtain ⟨g2, f2, A2, o2'⟩ := tput4 (md := ⟨md.ro, h.length⟩) (v := 0) hR A1 hro hrb (by show md.ro ≤ g1.length; omega) hx ⟨by omega, by omega⟩
  have o2 := o1.trans o2'
  have t2 := tv6 (tvB (V := V) (S := S) (T := T) la lb o2)
  have l2 := lkeep o2
  obtain ⟨g3, f3, A3, o3'⟩ := thang (md := ⟨md.ro, h.length⟩) hR A2 hro hrb (by show md.ro ≤ g2.length; omega) (.inr hx) (p := 0) ⟨by omega, by omega⟩
  have o3 := o2.trans o3'
  have b3 := tvB (V := V) (S := S) (T := T) la lb o3
  have t3 := tv6 b3
  have t3b := tv3 b3
  have t3m := tvm b3
  have l3 := lkeep o3
  have fs := fun (m : Md) (h : Heap) => fs_of hR hx (f := 6) (by omega) m h
  have lo := tlone (md := ⟨md.ro, h.length⟩) (h := g3) hR hx (ifA a) 1 0 (by show md.ro ≤ g3.length; omega) (m := 0) (by omega)
  have kl : SMok 1 (bif vxB V x then 1 else 0) 0 0 := ⟨by omega, by cases vxB V x <;> simp, by omega, by omega⟩
  have l4 := smN_lt kl
  obtain ⟨l, c, A3, R⟩ := A3
  obtain ⟨g5, f5, A5, o5'⟩ := ps_x (md := ⟨md.ro, h.length⟩) A3 hro hrb (qN V S T x + 6) (SM 1 (bif vxB V x then 1 else 0) 0 0)
  have o5 := o3.trans o5'
  have hx' := nix_small hR hx
  have R' := R.putSm hR hx.1 hx.2 (v := SM 1 (bif vxB V x then 1 else 0) 0 0) (by rw [SM_eq]; omega)
  have eS : ({ hangS { { s with lf := upI s.lf x 0 } with rt := upI s.rt x 0 } x 0 with sm := upI (hangS { { s with lf := upI s.lf x 0 } with rt := upI s.rt x 0 } x 0).sm x (SM 1 (bif vxB V x then 1 else 0) 0 0) } : NS) = aloneS V s x := by
    unfold hangS aloneS
    simp only [if_neg (show ¬ x = 0 by omega)]
  refine ⟨g5.take h.length, ?_, ⟨_, _, A5.take la lb, eS ▸ R'⟩, o5.take⟩
  rw [C, call_eq, F28_eq]
  unfold F28
  have lo' : C ⟨md.ro, h.length⟩ 55 [(Value.agg #[(Value.int .i64 V), (Value.int .i64 S), (Value.int .i64 T), ifA a, (Value.int .i64 1), (Value.int .i64 0)]), (Value.int .i64 x), (Value.int .u64 0)] g3 = some ((Value.int .u64 (SM 1 (bif vxB V x then 1 else 0) 0 0)), g3) := lo
  simp only [go_sem, Nat.reduceAdd, Nat.reduceLeDiff, Nat.reduceMul, Int.reduceBEq, Int.reduceBNe, Int.reduceLT, Int.reduceLE, Int.reduceGT, f1, t1, f2, t2, f3, t3, t3b, t3m, fs, lo', okN_i, clI_store, f5]
end Go.Det.E

/- Trees in memory: a node is marked; all above it are renewed. -/
namespace Go.Det.E
open Go.Proofs Go.Det Go.Det.U
attribute [local congr] bind_c cond_c
variable {md : Md} {h hh : Heap} {a b : Nat} {V S T x v p f : Int} {l c : List Int} {l0 : Int → Int} {s s' : NS} {sz nv own all : Nat} {mk mk' : Int → Nat} {vx : Int → Bool}
theorem am_congr {t : Tr} (h : ∀ y ∈ t.row, mk' y = mk y) : t.am mk' = t.am mk := by
  induction t with
  | nil => rfl
  | nd l x r hl hr =>
    simp only [Tr.am]
    rw [hl fun y hy => h y (by simp [Tr.row, hy]), hr fun y hy => h y (by simp [Tr.row, hy]), h x (by simp [Tr.row])]
theorem sm_congr {t : Tr} (h : ∀ y ∈ t.row, mk' y = mk y) : t.sm mk' vx = t.sm mk vx := by
  cases t with
  | nil => rfl
  | nd l x r =>
    simp only [Tr.sm]
    rw [am_congr (t := l) fun y hy => h y (by simp [Tr.row, hy]), am_congr (t := r) fun y hy => h y (by simp [Tr.row, hy]), h x (by simp [Tr.row])]
theorem IsT.marks {t : Tr} {p : Int} (h : ∀ y ∈ t.row, mk' y = mk y) (I : IsT mk vx s t p) : IsT mk' vx s t p := by
  induction t generalizing p with
  | nil => trivial
  | nd l x r hl hr =>
    obtain ⟨a1, a2, a3, a4, a5, a6⟩ := I
    exact ⟨a1, a2, a3, a4.trans (sm_congr h).symm, hl (fun y hy => h y (by simp [Tr.row, hy])) a5, hr (fun y hy => h y (by simp [Tr.row, hy])) a6⟩
/-- A node's sum is renewed, whose children's are right. -/
theorem renew_T {l r : Tr} (hR : Rt V S T) (hm : ∀ x, mk x < 4) (A : TH V S T l0 a b s h) (hro : md.ro ≤ a) (hrb : md.ro ≤ b) (hr : md.ro ≤ h.length) (hp : s.par x = p) (hl : s.lf x = l.rt) (hrr : s.rt x = r.rt)
    (Il : IsT mk (vxB V) s l x) (Ir : IsT mk (vxB V) s r x) (hn : (l.row ++ x :: r.row).Nodup) (h0 : ∀ y ∈ l.row ++ x :: r.row, Nix V S y) (hz : l.sz + r.sz < 60000) :
    ∃ s' h', C md 72 [(Value.agg #[(Value.int .i64 V), (Value.int .i64 S), (Value.int .i64 T), ifA a, (Value.int .i64 1), (Value.int .i64 0)]), (Value.int .i64 x), (Value.int .u64 ((mk x : Int)))] h = some ((Value.tuple #[]), h') ∧ TH V S T l0 a b s' h' ∧ Only a b h h' ∧ IsT mk (vxB V) s' (.nd l x r) p ∧ SameOut [x] s s' := by
  have pp := parts_of (V := V) (S := S) hn
  have h0l : ∀ y ∈ l.row, Nix V S y := fun y hy => h0 y (by simp [hy])
  have h0r : ∀ y ∈ r.row, Nix V S y := fun y hy => h0 y (by simp [hy])
  have one : ∀ {u : Tr}, (∀ y ∈ u.row, Nix V S y) → ∀ y ∈ u.row, 1 ≤ y := fun hu y hy => (hu y hy).1
  obtain ⟨ol, kl, sl⟩ := smok_tr (vx := vxB V) hm l (by omega)
  obtain ⟨or', kr, sr⟩ := smok_tr (vx := vxB V) hm r (by omega)
  have n0 := l.nv_le (vxB V)
  have n1 := r.nv_le (vxB V)
  obtain ⟨g, f, A1, o⟩ := trenew hR A hro hrb hr (h0 x (by simp)) (hm x) (by rw [hl]; exact rt_ch h0l) (by rw [hrr]; exact rt_ch h0r) kl (by rw [hl]; exact (sum_of Il.body (one h0l)).trans sl) kr (by rw [hrr]; exact (sum_of Ir.body (one h0r)).trans sr) (by omega) (by omega)
  rw [← sm_nd mk (vxB V)] at A1
  have so : SameOut [x] s { s with sm := upI s.sm x ((Tr.nd l x r).sm mk (vxB V)) } := fun y hy => ⟨rfl, rfl, rfl, upI_else (by simpa using hy)⟩
  refine ⟨_, g, f, A1, o, ⟨hp, hl, hrr, upI_same _ _ _, Il.congr (so.on fun y hy e => ?_), Ir.congr (so.on fun y hy e => ?_)⟩, so⟩
  · simp only [List.mem_singleton] at e; exact pp.xl (e ▸ hy)
  · simp only [List.mem_singleton] at e; exact pp.xr (e ▸ hy)
theorem up_mark (hR : Rt V S T) (hm : ∀ y, mk y < 4) (hm' : ∀ y, mk' y < 4) (he : ∀ y, y ≠ x → mk' y = mk y) (hro : md.ro ≤ a) (hrb : md.ro ≤ b) (hr : md.ro ≤ hh.length) (la : a < hh.length) (lb : b < hh.length) : ∀ (t : Tr) (p : Int) (s : NS) (k : Heap), Only a b (hh ++ [Blk.own [(Value.int .i64 V), (Value.int .i64 S), (Value.int .i64 T), ifA a, (Value.int .i64 1), (Value.int .i64 0)]]) k → TH V S T l0 a b s k → Ch V S p → IsT mk (vxB V) s t p → t.row.Nodup → (∀ y ∈ t.row, Nix V S y) → t.sz < 60000 → x ∈ t.row →
    ∃ s' k', J69_0 C ⟨md.ro, hh.length⟩ hh ((Value.int .i64 x)) ((Value.pointer (some ⟨hh.length, 0, none⟩))) ((Value.int .u64 ((mk' x : Int)))) k = J69_1 C ⟨md.ro, hh.length⟩ hh ((Value.pointer (some ⟨hh.length, 0, none⟩))) ((Value.int .i64 p)) k' ∧ TH V S T l0 a b s' k' ∧ Only a b (hh ++ [Blk.own [(Value.int .i64 V), (Value.int .i64 S), (Value.int .i64 T), ifA a, (Value.int .i64 1), (Value.int .i64 0)]]) k' ∧ IsT mk' (vxB V) s' t p ∧ SameOut t.row s s' := by
  intro t
  induction t with
  | nil => intro p s k _ _ _ _ _ _ _ hx; simp [Tr.row] at hx
  | nd l y r ihl ihr =>
    intro p s k o0 A hp I hn h0 hz hx
    have t0 := tv6 (tvB (V := V) (S := S) (T := T) la lb o0)
    have ll0 := lkeep o0
    simp only [Tr.sz] at hz
    have hn' : (l.row ++ y :: r.row).Nodup := hn
    have pp := parts_of (V := V) (S := S) hn'
    have h0l : ∀ y ∈ l.row, Nix V S y := fun z hz => h0 z (by simp [Tr.row, hz])
    have h0r : ∀ y ∈ r.row, Nix V S y := fun z hz => h0 z (by simp [Tr.row, hz])
    have hy := h0 y (by simp [Tr.row])
    have hy' := nix_small hR hy
    have y0 : (y == 0) = false := by simp; omega
    have kl : md.ro ≤ k.length := by omega
    obtain ⟨a1, a2, a3, a4, a5, a6⟩ := I
    -- one round of the loop at the root
    have round : ∀ (s1 : NS) (k1 : Heap), Only a b (hh ++ [Blk.own [(Value.int .i64 V), (Value.int .i64 S), (Value.int .i64 T), ifA a, (Value.int .i64 1), (Value.int .i64 0)]]) k1 → TH V S T l0 a b s1 k1 → s1.par y = p → s1.lf y = l.rt → s1.rt y = r.rt → s1.sm y = (Tr.nd l y r).sm mk (vxB V) → IsT mk' (vxB V) s1 l y → IsT mk' (vxB V) s1 r y → mk' y = mk y →
        ∃ s' k', J69_1 C ⟨md.ro, hh.length⟩ hh ((Value.pointer (some ⟨hh.length, 0, none⟩))) ((Value.int .i64 y)) k1 = J69_1 C ⟨md.ro, hh.length⟩ hh ((Value.pointer (some ⟨hh.length, 0, none⟩))) ((Value.int .i64 p)) k' ∧ TH V S T l0 a b s' k' ∧ Only a b (hh ++ [Blk.own [(Value.int .i64 V), (Value.int .i64 S), (Value.int .i64 T), ifA a, (Value.int .i64 1), (Value.int .i64 0)]]) k' ∧ IsT mk' (vxB V) s' (.nd l y r) p ∧ SameOut [y] s1 s' := by
      intro s1 k1 o1 A1 b1 b2 b3 b4 b5 b6 ey
      have t1 := tv6 (tvB (V := V) (S := S) (T := T) la lb o1)
      have ll1 := lkeep o1
      have n0 := l.nv_le (vxB V)
      have n1 := r.nv_le (vxB V)
      obtain ⟨g2, f2, A2, o2'⟩ := tmarks (md := ⟨md.ro, hh.length⟩) hR A1 hro (.inr hy) (sz := l.sz + r.sz + 1) (nv := l.nv (vxB V) + r.nv (vxB V) + (bif vxB V y then 1 else 0)) (own := mk y) (all := (mk y ||| l.am mk) ||| r.am mk) ⟨by omega, by cases vxB V y <;> simp <;> omega, hm y, Nat.or_lt_two_pow (n := 2) (Nat.or_lt_two_pow (n := 2) (hm y) (l.am_lt hm)) (r.am_lt hm)⟩ (by unfold sumV; rw [if_neg (by omega), b4]; rfl)
      rw [← ey] at f2
      have o2 := o1.trans o2'
      have t2 := tv6 (tvB (V := V) (S := S) (T := T) la lb o2)
      have ll2 := lkeep o2
      obtain ⟨s3, g3, f3, A3, o3', I3, so3⟩ := renew_T (md := ⟨md.ro, hh.length⟩) hR hm' A2 hro hrb (by show md.ro ≤ g2.length; omega) b1 b2 b3 b5 b6 hn' h0 (by omega)
      have o3 := o2.trans o3'
      have t3 := tv6 (tvB (V := V) (S := S) (T := T) la lb o3)
      have ll3 := lkeep o3
      have e3 : s3.par y = p := I3.1
      obtain ⟨g4, f4, A4, o4'⟩ := tparent (md := ⟨md.ro, hh.length⟩) hR A3 hro (by show md.ro ≤ g3.length; omega) hy (by rw [e3]; exact ch_small hR hp)
      rw [e3] at f4
      have o4 := o3.trans o4'
      refine ⟨s3, g4, ?_, A4, o4, I3, so3⟩
      have yn : (y != 0) = true := by simp [bne, y0]
      rw [J69_1_step]
      unfold Jr69_1
      simp only [go_sem, Nat.reduceAdd, Nat.reduceLeDiff, Nat.reduceMul, Int.reduceBEq, Int.reduceBNe, Int.reduceLT, Int.reduceLE, Int.reduceGT, aBin_neq, yn, t1, f2, t2, f3, t3, f4, cLE_t]
    by_cases hxy : x = y
    · subst hxy
      have m1 : ∀ z ∈ l.row, mk' z = mk z := fun z hz => he z fun e => pp.xl (e ▸ hz)
      have m2 : ∀ z ∈ r.row, mk' z = mk z := fun z hz => he z fun e => pp.xr (e ▸ hz)
      obtain ⟨s3, g3, f3, A3, o3', I3, so3⟩ := renew_T (md := ⟨md.ro, hh.length⟩) hR hm' A hro hrb kl a1 a2 a3 (a5.marks m1) (a6.marks m2) hn' h0 (by omega)
      have o3 := o0.trans o3'
      have t3 := tv6 (tvB (V := V) (S := S) (T := T) la lb o3)
      have ll3 := lkeep o3
      have e3 : s3.par x = p := I3.1
      obtain ⟨g4, f4, A4, o4'⟩ := tparent (md := ⟨md.ro, hh.length⟩) hR A3 hro (by show md.ro ≤ g3.length; omega) hy (by rw [e3]; exact ch_small hR hp)
      rw [e3] at f4
      have o4 := o3.trans o4'
      refine ⟨s3, g4, ?_, A4, o4, I3, so3.mono fun z hz => ?_⟩
      · unfold J69_0
        simp only [go_sem, Nat.reduceAdd, Nat.reduceLeDiff, Nat.reduceMul, Int.reduceBEq, Int.reduceBNe, Int.reduceLT, Int.reduceLE, Int.reduceGT, t0, f3, t3, f4]
      · simp only [List.mem_singleton] at hz; subst hz; simp [Tr.row]
    · have hx' : x ∈ l.row ∨ x ∈ r.row := by
        simp only [Tr.row, List.mem_append, List.mem_cons] at hx
        rcases hx with q | q | q
        · exact .inl q
        · exact absurd q hxy
        · exact .inr q
      have ey : mk' y = mk y := he y fun e => hxy e.symm
      rcases hx' with hx' | hx'
      · obtain ⟨s1, k1, f1, A1, o1, I1, so1⟩ := ihl y s k o0 A (.inr hy) a5 pp.nl h0l (by omega) hx'
        obtain ⟨c1, c2, c3, c4⟩ := so1 y pp.xl
        have m2 : ∀ z ∈ r.row, mk' z = mk z := fun z hz => he z fun e => pp.lr x hx' (e ▸ hz)
        obtain ⟨s2, k2, f2, A2, o2, I2, so2⟩ := round s1 k1 o1 A1 (c1.trans a1) (c2.trans a2) (c3.trans a3) (c4.trans a4) I1 ((a6.marks m2).congr (so1.on fun z hz q => pp.lr z q hz)) ey
        refine ⟨s2, k2, f1.trans f2, A2, o2, I2, (so1.mono fun z hz => by simp [Tr.row, hz]).trans (so2.mono fun z hz => ?_)⟩
        simp only [List.mem_singleton] at hz; subst hz; simp [Tr.row]
      · obtain ⟨s1, k1, f1, A1, o1, I1, so1⟩ := ihr y s k o0 A (.inr hy) a6 pp.nr h0r (by omega) hx'
        obtain ⟨c1, c2, c3, c4⟩ := so1 y pp.xr
        have m2 : ∀ z ∈ l.row, mk' z = mk z := fun z hz => he z fun e => pp.lr z hz (e ▸ hx')
        obtain ⟨s2, k2, f2, A2, o2, I2, so2⟩ := round s1 k1 o1 A1 (c1.trans a1) (c2.trans a2) (c3.trans a3) (c4.trans a4) ((a5.marks m2).congr (so1.on fun z hz q => pp.lr z hz q)) I1 ey
        refine ⟨s2, k2, f1.trans f2, A2, o2, I2, (so1.mono fun z hz => by simp [Tr.row, hz]).trans (so2.mono fun z hz => ?_)⟩
        simp only [List.mem_singleton] at hz; subst hz; simp [Tr.row]
/-! ### Marks' bits -/
def markS (o m : Nat) (on : Bool) : Nat := bif on then (o - o / 2 ^ m % 2 * 2 ^ m) + 2 ^ m else o - o / 2 ^ m % 2 * 2 ^ m
theorem mark_lt {o m : Nat} (ho : o < 4) (hm : m < 2) (on : Bool) : markS o m on < 4 := by
  obtain rfl | rfl : m = 0 ∨ m = 1 := by omega
  all_goals (obtain rfl | rfl | rfl | rfl : o = 0 ∨ o = 1 ∨ o = 2 ∨ o = 3 := by omega) <;> cases on <;> decide
theorem u_shl {α : Type} {m : Nat} (hm : m < 2) (k : Value → Option α) : shI .shl 1 (m : Int) .u64 k = k ((Value.int .u64 (((2 ^ m : Nat) : Int)))) := by
  obtain rfl | rfl : m = 0 ∨ m = 1 := by omega
  all_goals kernel_rfl
theorem u_clr {α : Type} {o m : Nat} (ho : o < 4) (hm : m < 2) (k : Value → Option α) : aBin Try.prog .andNot 51 ((Value.int .u64 ((o : Int)))) ((Value.int .u64 (((2 ^ m : Nat) : Int)))) k = k ((Value.int .u64 (((markS o m false : Nat) : Int)))) := by
  obtain rfl | rfl : m = 0 ∨ m = 1 := by omega
  all_goals (obtain rfl | rfl | rfl | rfl : o = 0 ∨ o = 1 ∨ o = 2 ∨ o = 3 := by omega) <;> kernel_rfl
theorem u_set {α : Type} {o m : Nat} (ho : o < 4) (hm : m < 2) (k : Value → Option α) : aBin Try.prog .or 51 ((Value.int .u64 (((markS o m false : Nat) : Int)))) ((Value.int .u64 (((2 ^ m : Nat) : Int)))) k = k ((Value.int .u64 (((markS o m true : Nat) : Int)))) := by
  obtain rfl | rfl : m = 0 ∨ m = 1 := by omega
  all_goals (obtain rfl | rfl | rfl | rfl : o = 0 ∨ o = 1 ∨ o = 2 ∨ o = 3 := by omega) <;> kernel_rfl
def mkU (mk : Int → Nat) (x : Int) (m : Nat) (on : Bool) : Int → Nat := fun y => if y = x then markS (mk x) m on else mk y
theorem mkU_lt (hm : ∀ y, mk y < 4) {m : Nat} (h : m < 2) (on : Bool) (y : Int) : mkU mk x m on y < 4 := by
  unfold mkU
  split
  · exact mark_lt (hm x) h on
  · exact hm y
theorem own_of {t : Tr} {p : Int} (hm : ∀ y, mk y < 4) (I : IsT mk vx s t p) (hx : x ∈ t.row) (hz : t.sz < 60000) (h0 : ∀ y ∈ t.row, 1 ≤ y) : ∃ sz nv all, SMok sz nv (mk x) all ∧ sumV s x = SM sz nv (mk x) all := by
  induction t generalizing p with
  | nil => simp [Tr.row] at hx
  | nd l y r hl hr =>
    obtain ⟨a1, a2, a3, a4, a5, a6⟩ := I
    simp only [Tr.sz] at hz
    simp only [Tr.row, List.mem_append, List.mem_cons] at hx
    rcases hx with q | q | q
    · exact hl a5 q (by omega) fun z hz => h0 z (by simp [Tr.row, hz])
    · subst q
      have n0 := l.nv_le vx
      have n1 := r.nv_le vx
      have := h0 x (by simp [Tr.row])
      exact ⟨l.sz + r.sz + 1, l.nv vx + r.nv vx + (bif vx x then 1 else 0), (mk x ||| l.am mk) ||| r.am mk, ⟨by omega, by cases vx x <;> simp <;> omega, hm x, Nat.or_lt_two_pow (n := 2) (Nat.or_lt_two_pow (n := 2) (hm x) (l.am_lt hm)) (r.am_lt hm)⟩, by unfold sumV; rw [if_neg (by omega), a4]; rfl⟩
    · exact hr a6 q (by omega) fun z hz => h0 z (by simp [Tr.row, hz])
theorem tMark (hR : Rt V S T) (hm : ∀ y, mk y < 4) {t : Tr} (A : TH V S T l0 a b s h) (hro : md.ro ≤ a) (hrb : md.ro ≤ b) (hr : md.ro ≤ h.length) (I : IsT mk (vxB V) s t 0) (hn : t.row.Nodup) (h0 : ∀ y ∈ t.row, Nix V S y) (hz : t.sz < 60000) (hx : x ∈ t.row) {m : Nat} (h2 : m < 2) (on : Bool) :
    ∃ s' h', C md 69 [(Value.agg #[(Value.int .i64 V), (Value.int .i64 S), (Value.int .i64 T), ifA a, (Value.int .i64 1), (Value.int .i64 0)]), (Value.int .i64 x), (Value.int .i64 ((m : Int))), (Value.bool on)] h = some ((Value.tuple #[]), h') ∧ TH V S T l0 a b s' h' ∧ Only a b h h' ∧ IsT (mkU mk x m on) (vxB V) s' t 0 ∧ SameOut t.row s s' := by
  obtain ⟨la, lb⟩ := A.la
  obtain ⟨sz, nv, all, k1, e1⟩ := own_of hm I hx hz fun y hy => (h0 y hy).1
  obtain ⟨g1, f1, A1, o1⟩ := tmarks (md := ⟨md.ro, h.length⟩) hR (A.app [Blk.own [(Value.int .i64 V), (Value.int .i64 S), (Value.int .i64 T), ifA a, (Value.int .i64 1), (Value.int .i64 0)]]) hro (.inr (h0 x hx)) k1 e1
  have mx : mkU mk x m on x = markS (mk x) m on := if_pos rfl
  obtain ⟨s2, g2, f2, A2, o2, I2, so2⟩ := up_mark (x := x) hR hm (mkU_lt hm h2 on) (fun y hy => if_neg hy) hro hrb hr la lb t 0 s g1 o1 A1 (.inl rfl) I hn h0 hz hx
  rw [mx] at f2
  have e2 : J69_1 C ⟨md.ro, h.length⟩ h ((Value.pointer (some ⟨h.length, 0, none⟩))) ((Value.int .i64 0)) g2 = some ((Value.tuple #[]), g2.take h.length) := by
    rw [J69_1_step]
    unfold Jr69_1
    have z : ((0 : Int) != 0) = false := by decide
    simp only [go_sem, Nat.reduceAdd, Nat.reduceLeDiff, Nat.reduceMul, Int.reduceBEq, Int.reduceBNe, Int.reduceLT, Int.reduceLE, Int.reduceGT, aBin_neq, z, Jk69_1]
  refine ⟨s2, g2.take h.length, ?_, A2.take la lb, o2.take, I2, so2⟩
  have q1 := fun {α : Type} (k : Value → Option α) => u_shl h2 k
  have q2 := fun {α : Type} (k : Value → Option α) => u_clr (hm x) h2 k
  have q3 := fun {α : Type} (k : Value → Option α) => u_set (hm x) h2 k
  have e3 := f2.trans e2
  rw [C, call_eq, F69_eq]
  unfold F69
  cases on
  · simp only [go_sem, Nat.reduceAdd, Nat.reduceLeDiff, Nat.reduceMul, Int.reduceBEq, Int.reduceBNe, Int.reduceLT, Int.reduceLE, Int.reduceGT, f1, q1, q2]
    exact e3
  · simp only [go_sem, Nat.reduceAdd, Nat.reduceLeDiff, Nat.reduceMul, Int.reduceBEq, Int.reduceBNe, Int.reduceLT, Int.reduceLE, Int.reduceGT, f1, q1, q2, q3]
    exact e3
end Go.Det.E

/- Trees in memory: marks asked for, the root, a node's place. -/
namespace Go.Det.E
open Go.Proofs Go.Det Go.Det.U
attribute [local congr] bind_c cond_c
variable {md : Md} {h hh : Heap} {a b : Nat} {V S T x v p f : Int} {l c : List Int} {l0 : Int → Int} {s s' : NS} {sz nv own all : Nat} {mk mk' : Int → Nat} {vx : Int → Bool}
def bitB (o m : Nat) : Bool := decide (o / 2 ^ m % 2 = 1)
theorem u_bit {o m : Nat} (ho : o < 4) (hm : m < 2) : ∃ v, shOp .shr (o : Int) (m : Int) .u64 = some ((Value.int .u64 v)) ∧ (bAnd .u64 v 1 == 1) = bitB o m := by
  refine ⟨((o / 2 ^ m : Nat) : Int), ?_⟩
  obtain rfl | rfl : m = 0 ∨ m = 1 := by omega
  all_goals (obtain rfl | rfl | rfl | rfl : o = 0 ∨ o = 1 ∨ o = 2 ∨ o = 3 := by omega) <;> exact ⟨by kernel_rfl, by kernel_rfl⟩
theorem tMarked (hR : Rt V S T) (A : TH V S T l0 a b s h) (hro : md.ro ≤ a) (hx : x = 0 ∨ Nix V S x) (k : SMok sz nv own all) (hs : sumV s x = SM sz nv own all) {m : Nat} (hm : m < 2) :
    ∃ h', C md 21 [(Value.agg #[(Value.int .i64 V), (Value.int .i64 S), (Value.int .i64 T), ifA a, (Value.int .i64 1), (Value.int .i64 0)]), (Value.int .i64 x), (Value.int .i64 ((m : Int)))] h = some ((Value.bool (bitB own m)), h') ∧ TH V S T l0 a b s h' ∧ Only a b h h' := by
  obtain ⟨la, lb⟩ := A.la
  obtain ⟨k1, e1, A1, o1⟩ := tmarks (md := ⟨md.ro, h.length⟩) hR (A.app [Blk.own [(Value.int .i64 V), (Value.int .i64 S), (Value.int .i64 T), ifA a, (Value.int .i64 1), (Value.int .i64 0)]]) hro hx k hs
  obtain ⟨v, e2, e3⟩ := u_bit k.own hm
  refine ⟨k1.take h.length, ?_, A1.take la lb, o1.take⟩
  rw [C, call_eq, F21_eq]
  unfold F21
  simp only [go_sem, Nat.reduceAdd, Nat.reduceLeDiff, Nat.reduceMul, Int.reduceBEq, Int.reduceBNe, Int.reduceLT, Int.reduceLE, Int.reduceGT, e1, e2, aBin_and, aBin_eql, e3]
end Go.Det.E
