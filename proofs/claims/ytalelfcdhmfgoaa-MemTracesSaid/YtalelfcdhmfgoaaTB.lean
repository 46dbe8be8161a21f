/- The cells that a trace stored into: gathered, sorted, each once. -/
import Derived.Test.YtalelfcdhmfgoaaTA
import Derived.Test.YtalelfcdhmfgoaaT3
set_option autoImplicit false
set_option linter.unusedVariables false
set_option linter.unusedSimpArgs false
namespace Go.Det.O
open Go.Det.E
open Go.Proofs Go.Det
attribute [local congr] bind_c cond_c
variable {md : Md} {h hh k h' h0 : Heap} {v rv : Value} {d : Array Int} {row : List Acc}
theorem sort_nil (md : Md) (h : Heap) : C md 22 [.slice none 0 0] h = some ((Value.tuple #[]), h) := by
  have i0 : ∀ (m : Md) (g : Heap), C m 27 [.slice none 0 0, (Value.int .i64 0), (Value.int .i64 0)] g = some ((Value.tuple #[]), g) := fun m g => by
    rw [C, call_eq, F27_eq]
    unfold F27
    rw [wi (by decide) (by decide), J27_0_step]
    unfold Jr27_0
    simp only [go_sem, Nat.reduceAdd, Nat.reduceLeDiff, Nat.reduceMul, Int.reduceBEq, Int.reduceBNe, Int.reduceLT, Int.reduceLE, Int.reduceGT, aBin_lss, Jk27_0, take_len rfl, show ¬ ((0 : Int) + 1 < 0) by decide]
  have p0 : ∀ (m : Md) (g : Heap), C m 25 [.slice none 0 0, (Value.int .i64 0), (Value.int .i64 0), (Value.int .i64 ((Go.Sort.bitsLen 0 : Int)))] g = some ((Value.tuple #[]), g) := fun m g => by
    have w0 : IntKind.wrap .i64 ((0 : Int) - 0) = 0 := wi (by decide) (by decide)
    rw [C, call_eq, F25_eq]
    unfold F25
    rw [J25_0_step]
    unfold Jr25_0
    simp only [go_sem, Nat.reduceAdd, Nat.reduceLeDiff, Nat.reduceMul, Int.reduceBEq, Int.reduceBNe, Int.reduceLT, Int.reduceLE, Int.reduceGT, aBin_sub, w0, aBin_leq, show ((0 : Int) ≤ 12) by decide, i0, Jk25_0, take_len rfl]
  have wn : IntKind.wrap .u64 (0 : Int) = ((0 : Nat) : Int) := wu (by omega) (by omega)
  have ls := fun (m : Md) (g : Heap) => len_s (n := 0) m g (by omega)
  have ln : ∀ {α : Type} (kk : Value → Option α), lenS (.slice none 0 0) kk = kk ((Value.int .i64 0)) := fun kk => rfl
  rw [C, call_eq, F22_eq]
  unfold F22
  simp only [go_sem, Nat.reduceAdd, Nat.reduceLeDiff, Nat.reduceMul, Int.reduceBEq, Int.reduceBNe, Int.reduceLT, Int.reduceLE, Int.reduceGT, ln, wn, ls, p0, take_len rfl]
theorem compact_nil (md : Md) (h : Heap) : C md 23 [.slice none 0 0] h = some (.slice none 0 0, h) := by
  have ln : ∀ {α : Type} (kk : Value → Option α), lenS (.slice none 0 0) kk = kk ((Value.int .i64 0)) := fun kk => rfl
  rw [C, call_eq, F23_eq]
  unfold F23
  simp only [go_sem, Nat.reduceAdd, Nat.reduceLeDiff, Nat.reduceMul, Int.reduceBEq, Int.reduceBNe, Int.reduceLT, Int.reduceLE, Int.reduceGT, ln, show ((0 : Int) < 2) by decide, take_len rfl]
/-- The cells that a row stores into, in its order. -/
def stc (row : List Acc) : List Int := (row.filter (·.s)).map (·.i)
theorem eZ_cell (x : Int) : (eZ x).all isCell = true := rfl
theorem chg_lp {s2 : Value} (SV : Sl hh 3 encX rv row) (hlen : row.length ≤ 1000) (hro : md.ro ≤ hh.length) (hlim : md.lim ≤ hh.length) : ∀ (m j : Nat) (k : Heap) (s3 : Value) (out : List Int), j + m = row.length → SlO k hh.length 1 eZ s3 out → (out = [] → s3 = .slice none 0 0) → Old hh.length hh k → out.length ≤ j →
    ∃ k' s3', J12_0 C md h0 s2 s3 rv ((Value.int .i64 ((row.length : Int)))) ((Value.int .i64 ((j : Int)))) k = J12_1 C md h0 s3' k' ∧ SlO k' hh.length 1 eZ s3' (out ++ stc (row.drop j)) ∧ (out ++ stc (row.drop j) = [] → s3' = .slice none 0 0) ∧ Old hh.length hh k' ∧ (out ++ stc (row.drop j)).length ≤ row.length := by
  intro m
  induction m with
  | zero =>
    intro j k s3 out hj S hn O ho
    obtain rfl : j = row.length := by omega
    rw [List.drop_length]
    refine ⟨k, s3, ?_, by simpa [stc] using S, by simpa [stc] using hn, O, by simpa [stc] using ho⟩
    rw [J12_0_step]
    unfold Jr12_0
    simp only [go_sem, Nat.reduceAdd, Nat.reduceLeDiff, Nat.reduceMul, Int.reduceBEq, Int.reduceBNe, Int.reduceLT, Int.reduceLE, Int.reduceGT, aBin_lss, Int.lt_irrefl, Jk12_0]
  | succ m ih =>
    intro j k s3 out hj S hn O ho
    have hlt : (j : Int) < (row.length : Int) := by omega
    obtain ⟨x, hx⟩ : ∃ x, row[j]? = some x := ⟨row[j]'(by omega), List.getElem?_eq_getElem (by omega)⟩
    have S0 : Sl k 3 encX rv row := SV.heap fun hl => O.old _ hl
    have ix := fun {α : Type} (kk : Value → Option α) => S0.ix (i := (j : Int)) (by omega) hlt kk
    have el := S0.elem hx
    have ol := O.len
    have st3 := fun (h' : Heap) (kk : Heap → Option (((Value × Value × Value × Value × Value) × Heap) ⊕ (Exit × (Value × Value × Value × Value × Value) × Heap))) => st_N md 3 k.length 0 (encX x) h' kk rfl rfl
    have w : IntKind.wrap .i64 ((j : Int) + 1) = ((j + 1 : Nat) : Int) := by rw [wi (by omega) (by omega)]; rfl
    have dr : row.drop j = x :: row.drop (j + 1) := by
      obtain ⟨hk', rfl⟩ := List.getElem?_eq_some_iff.1 hx
      exact List.drop_eq_getElem_cons hk'
    obtain ⟨h6, e6⟩ : ∃ h6, h6 = k ++ [Blk.own (encX x)] := ⟨_, rfl⟩
    have b6 : h6[k.length]? = some (.own (encX x)) := by rw [e6]; simp
    have q0 : rd h6 k.length 0 = some ((Value.bool x.s)) := by rw [rd_own b6]; rfl
    have q1 : rd h6 k.length 1 = some ((Value.int .i64 x.i)) := by rw [rd_own b6]; rfl
    have w6 : wrN md (k ++ [Blk.own [(Value.bool false), (Value.int .i64 0), (Value.int .u64 0)]]) k.length 0 [(Value.bool x.s), (Value.int .i64 x.i), (Value.int .u64 x.v)] = some h6 := by
      have g1 : md.ro ≤ k.length := by omega
      have g2 : md.lim ≤ k.length := by omega
      rw [e6]; simp only [go_sem, Nat.reduceAdd, Nat.reduceLeDiff, Nat.reduceMul, Int.reduceBEq, Int.reduceBNe, Int.reduceLT, Int.reduceLE, Int.reduceGT, g1, g2]
    have O6 : Old hh.length hh h6 := by rw [e6]; exact O.trans (Old.app _ ol)
    have S6 : SlO h6 hh.length 1 eZ s3 out := by rw [e6]; exact S.at fun y h1 h2 => List.getElem?_append_left h2
    have l6 := O6.len
    rw [dr]
    cases hs : x.s
    · rw [hs] at q0
      have e1 : stc (x :: row.drop (j + 1)) = stc (row.drop (j + 1)) := by simp [stc, hs]
      rw [e1]
      obtain ⟨k', s3', e', S', n', O', l'⟩ := ih (j + 1) h6 s3 out (by omega) S6 hn O6 (by omega)
      refine ⟨k', s3', ?_, S', n', O', l'⟩
      rw [J12_0_step]
      unfold Jr12_0
      simp only [go_sem, Nat.reduceAdd, Nat.reduceLeDiff, Nat.reduceMul, Int.reduceBEq, Int.reduceBNe, Int.reduceLT, Int.reduceLE, Int.reduceGT, aBin_lss, hlt, ix, el, st3, w6, q0, aBin_add, w]
      exact e'
    · rw [hs] at q0
      have e1 : out ++ stc (x :: row.drop (j + 1)) = (out ++ [x.i]) ++ stc (row.drop (j + 1)) := by simp [stc, hs]
      rw [e1]
      obtain ⟨v2, h2, ea, S2, O2⟩ := append_own (md := md) (ys := [x.i]) tZ S6 hro l6 (cs := [(Value.int .i64 x.i)]) (by simp [flat]) (by simp) rfl (by simp only [List.length_cons, List.length_nil]; omega)
      have ea' : ∀ {α : Type} (kk : Value → Heap → Option α), aBuiltin Try.prog md .append #[41, 41] [s3, (Value.slice (some ⟨h6.length, 0, none⟩) 1 1)] (h6 ++ [Blk.own [(Value.int .i64 x.i)]]) kk = kk v2 h2 := fun kk => ea kk
      obtain ⟨k', s3', e', S', n', O', l'⟩ := ih (j + 1) h2 v2 (out ++ [x.i]) (by omega) S2 (fun q => by simp at q) (O6.trans O2) (by simp [ho])
      refine ⟨k', s3', ?_, S', n', O', l'⟩
      rw [J12_0_step]
      unfold Jr12_0
      simp only [go_sem, Nat.reduceAdd, Nat.reduceLeDiff, Nat.reduceMul, Int.reduceBEq, Int.reduceBNe, Int.reduceLT, Int.reduceLE, Int.reduceGT, aBin_lss, hlt, ix, el, st3, w6, q0, q1, ea', aBin_add, w]
      exact e'
/-- What a list of the stored cells is: a sorted array of them, each once. -/
def Chg (cs : List Int) (out : List Int) : Prop := ∃ d : Array Int, d.toList.Perm cs ∧ Go.Sort.SortedIn Go.Sort.ltInt 0 d.size d ∧ out = dd d d.size
theorem changed_e {n0 kb a b : Nat} {l : List Int} (T : Tr hh n0 kb a b l rv row) (hro : md.ro ≤ hh.length) (hlim : md.lim ≤ hh.length) (hlen : row.length ≤ 100) :
    ∃ v' h' out, C md 12 [(Value.pointer (some ⟨kb, 0, none⟩))] hh = some (v', h') ∧ Sl h' 1 eZ v' out ∧ Chg (stc row) out ∧ Old hh.length hh h' := by
  have r1 : rd hh kb 1 = some rv := by rw [rd_own T.K]; rfl
  have len := fun {α : Type} (kk : Value → Option α) => T.R.sl.len kk
  obtain ⟨k1, s1, e1, S1, n1, O1, l1⟩ := chg_lp (md := md) (h0 := hh) (s2 := .slice none 0 0) T.R.sl (by omega) hro hlim row.length 0 hh (.slice none 0 0) [] (by omega) (SlO.nil _ _ eZ_len) (fun _ => rfl) (Old.refl _ _) (Nat.le_refl _)
  rw [List.nil_append, List.drop_zero] at S1 n1 l1
  have ok := O1.len
  have head : ∀ r, J12_1 C md hh s1 k1 = r → C md 12 [(Value.pointer (some ⟨kb, 0, none⟩))] hh = r := fun r hr => by
    rw [C, call_eq, F12_eq]
    unfold F12
    simp only [go_sem, Nat.reduceAdd, Nat.reduceLeDiff, Nat.reduceMul, Int.reduceBEq, Int.reduceBNe, Int.reduceLT, Int.reduceLE, Int.reduceGT, r1, len]
    exact e1.trans hr
  by_cases hz : stc row = []
  · rw [n1 hz] at S1 head
    refine ⟨.slice none 0 0, k1, [], head _ ?_, Sl.nil _ eZ_len, ⟨#[], by rw [hz], fun i j h1 h2 h3 => absurd h3 (by simp), rfl⟩, O1⟩
    unfold J12_1
    simp only [go_sem, Nat.reduceAdd, Nat.reduceLeDiff, Nat.reduceMul, Int.reduceBEq, Int.reduceBNe, Int.reduceLT, Int.reduceLE, Int.reduceGT, sort_nil, compact_nil]
  · have hl : 1 ≤ (stc row).length := by
      cases h : stc row with
      | nil => exact absurd h hz
      | cons _ _ => simp
    obtain ⟨g1, cs, g2⟩ := S1.own.resolve_left (fun e => by rw [e] at S1; exact hz S1.nil_of)
    have A1 : AR k1 s1 (stc row).toArray := ⟨S1.sl, cs, g2⟩
    have sz : (stc row).toArray.size = (stc row).length := by simp
    obtain ⟨k2, d, e2, A2, o2, P2, D2⟩ := sort_s (md := md) (by omega) (by omega) A1 (by omega)
    have sz2 : d.size = (stc row).length := P2.1.trans sz
    rw [sz] at P2 D2
    obtain ⟨v3, k3, e3, S3, o3⟩ := compact_s (md := md) (by omega) A2 (by omega) (by omega)
    refine ⟨v3, k3, _, head _ ?_, S3, ⟨d, ?_, by rw [sz2]; exact D2, rfl⟩, ?_⟩
    · unfold J12_1
      simp only [go_sem, Nat.reduceAdd, Nat.reduceLeDiff, Nat.reduceMul, Int.reduceBEq, Int.reduceBNe, Int.reduceLT, Int.reduceLE, Int.reduceGT, e2, e3]
    · have := P2.2.2
      rw [show (stc row).length = d.size from sz2.symm] at this
      have e1 : (d.extract 0 d.size).toList = d.toList := by simp
      have e2 : ((stc row).toArray.extract 0 d.size).toList = stc row := by simp [sz2]
      rw [e1, e2] at this
      exact this
    · exact O1.trans ((o2.old g1 g1).trans (o3.old g1 g1))
end Go.Det.O
