/- Laws of the words, for stepping through printed functions. -/
import Derived.Test.YtbliaopehpcpbaaDoorDetQ
set_option autoImplicit false
set_option linter.unusedVariables false
set_option linter.unusedSimpArgs false
namespace Go.Det

theorem nrf {β : Type} {a b : β} (h : a = b) : a = b := h
section
variable {α : Type}

def clV (rc : Rec) (md : Md) (f : Value) (args : List Value) (h : Heap) (k : Value → Heap → Option α) : Option α :=
  match f with
  | .func (.func g) fst cap => cl (rc md g (fst.toList ++ args ++ cap.toList) h) k
  | _ => none
def ixSV (size : Nat) (x i : Value) (k : Value → Option α) : Option α :=
  match i with
  | .int _ n => ixS size x n k
  | _ => none
def ixAV (len size : Nat) (x i : Value) (k : Value → Option α) : Option α :=
  match i with
  | .int _ n => ixA len size x n k
  | _ => none
theorem ixSV_p (size : Nat) (x : Value) (kd : IntKind) (n : Int) (k : Value → Option α) : ixSV size x (.int kd n) k = ixS size x n k := nrf rfl
theorem ixAV_p (len size : Nat) (x : Value) (kd : IntKind) (n : Int) (k : Value → Option α) : ixAV len size x (.int kd n) k = ixA len size x n k := nrf rfl
theorem ixSV_c {size : Nat} {x x' i i' : Value} {k : Value → Option α} (h1 : x = x') (h2 : i = i') : ixSV size x i k = ixSV size x' i' k := by rw [h1, h2]
theorem ixAV_c {len size : Nat} {x x' i i' : Value} {k : Value → Option α} (h1 : x = x') (h2 : i = i') : ixAV len size x i k = ixAV len size x' i' k := by rw [h1, h2]
def clI (P : Program) (rc : Rec) (md : Md) (r : Value) (name : String) (args : List Value) (h : Heap) (k : Value → Heap → Option α) : Option α :=
  match r with
  | .iface ty v => (match aMethod P ty v name with | some (g, x) => cl (rc md g (x :: args) h) k | none => none)
  | _ => none

theorem ld1_p (b i : Nat) (h : Heap) (k : Value → Option α) : ld1 (.pointer (some ⟨b, i, none⟩)) h k = (rd h b i).bind k := by
  unfold ld1; simp only []; cases rd h b i <;> rfl
theorem ldN_p (n b i : Nat) (h : Heap) (k : Value → Option α) : ldN n (.pointer (some ⟨b, i, none⟩)) h k = (rdN h b i n).bind fun l => k (.agg l.toArray) := by
  unfold ldN; simp only []; cases rdN h b i n <;> rfl
theorem st_p (md : Md) (n b i : Nat) (v : Value) (h : Heap) (k : Heap → Option α) : st md n (.pointer (some ⟨b, i, none⟩)) v h k =
    if v.cells.toList.length = n ∧ v.cells.toList.all isCell = true then (wrN md h b i v.cells.toList).bind k else none := by
  unfold st
  simp only []
  by_cases h1 : v.cells.toList.length = n
  · by_cases h2 : v.cells.toList.all isCell = true
    · rw [if_pos h1, if_pos h2, if_pos ⟨h1, h2⟩]
      cases wrN md h b i v.cells.toList <;> rfl
    · rw [if_pos h1, if_neg h2, if_neg fun h => h2 h.2]
  · rw [if_neg h1, if_neg fun h => h1 h.1]
theorem st_1 (md : Md) (b i : Nat) (v : Value) (h : Heap) (k : Heap → Option α) (hv : isCell v = true) : st md 1 (.pointer (some ⟨b, i, none⟩)) v h k = (wrN md h b i [v]).bind k := by
  have hc : v.cells.toList = [v] := by cases v <;> first | rfl | simp [isCell] at hv
  rw [st_p, hc]
  simp [hv]
theorem st_1i (md : Md) (b i : Nat) (kd : IntKind) (x : Int) (h : Heap) (k : Heap → Option α) : st md 1 (.pointer (some ⟨b, i, none⟩)) (.int kd x) h k = (wrN md h b i [.int kd x]).bind k := st_1 _ _ _ _ _ _ rfl
theorem st_1b (md : Md) (b i : Nat) (q : Bool) (h : Heap) (k : Heap → Option α) : st md 1 (.pointer (some ⟨b, i, none⟩)) (.bool q) h k = (wrN md h b i [.bool q]).bind k := st_1 _ _ _ _ _ _ rfl
theorem st_1p (md : Md) (b i : Nat) (a : Option Addr) (h : Heap) (k : Heap → Option α) : st md 1 (.pointer (some ⟨b, i, none⟩)) (.pointer a) h k = (wrN md h b i [.pointer a]).bind k := st_1 _ _ _ _ _ _ rfl
theorem st_1s (md : Md) (b i : Nat) (a : Option Addr) (l c : Nat) (h : Heap) (k : Heap → Option α) : st md 1 (.pointer (some ⟨b, i, none⟩)) (.slice a l c) h k = (wrN md h b i [.slice a l c]).bind k := st_1 _ _ _ _ _ _ rfl
theorem st_1t (md : Md) (b i : Nat) (s : ByteArray) (h : Heap) (k : Heap → Option α) : st md 1 (.pointer (some ⟨b, i, none⟩)) (.string s) h k = (wrN md h b i [.string s]).bind k := st_1 _ _ _ _ _ _ rfl
theorem st_1f (md : Md) (b i : Nat) (t : TypeId) (v : Value) (h : Heap) (k : Heap → Option α) : st md 1 (.pointer (some ⟨b, i, none⟩)) (.iface t v) h k = (wrN md h b i [.iface t v]).bind k := st_1 _ _ _ _ _ _ rfl
theorem st_1nf (md : Md) (b i : Nat)  (h : Heap) (k : Heap → Option α) : st md 1 (.pointer (some ⟨b, i, none⟩)) (.nilFunc) h k = (wrN md h b i [.nilFunc]).bind k := st_1 _ _ _ _ _ _ rfl
theorem st_1ni (md : Md) (b i : Nat)  (h : Heap) (k : Heap → Option α) : st md 1 (.pointer (some ⟨b, i, none⟩)) (.nilIface) h k = (wrN md h b i [.nilIface]).bind k := st_1 _ _ _ _ _ _ rfl
theorem st_N (md : Md) (n b i : Nat) (l : List Value) (h : Heap) (k : Heap → Option α) (hl : l.length = n) (hv : l.all isCell = true) : st md n (.pointer (some ⟨b, i, none⟩)) (.agg l.toArray) h k = (wrN md h b i l).bind k := by
  have hc : (Value.agg l.toArray).cells.toList = l := by simp [Value.cells]
  rw [st_p, hc]
  simp [hv, hl]
theorem fA_p (off b o : Nat) (k : Value → Option α) : fA off (.pointer (some ⟨b, o, none⟩)) k = k (.pointer (some ⟨b, o + off, none⟩)) := nrf rfl
theorem ixS_p (size b o len cap : Nat) (n : Int) (k : Value → Option α) (h : 0 ≤ n ∧ n < (len : Int)) : ixS size (.slice (some ⟨b, o, none⟩) len cap) n k = k (.pointer (some ⟨b, o + n.toNat * size, none⟩)) := by
  unfold ixS; simp only [if_pos h]
theorem ixA_p (size b o len : Nat) (n : Int) (k : Value → Option α) (h : 0 ≤ n ∧ n < (len : Int)) : ixA len size (.pointer (some ⟨b, o, none⟩)) n k = k (.pointer (some ⟨b, o + n.toNat * size, none⟩)) := by
  unfold ixA; simp only [if_pos h]
theorem lenS_p (a : Option Addr) (n c : Nat) (k : Value → Option α) : lenS (.slice a n c) k = k (.int .i64 n) := nrf rfl
theorem lenT_p (s : ByteArray) (k : Value → Option α) : lenT (.string s) k = k (.int .i64 s.size) := nrf rfl
theorem exT_p (l : List Value) (i : Nat) (k : Value → Option α) : exT (.tuple l.toArray) i k = l[i]?.bind k := by
  unfold exT; simp only []; cases l[i]? <;> rfl
theorem cl_p (v : Value) (h : Heap) (k : Value → Heap → Option α) : cl (some (v, h)) k = k v h := nrf rfl
theorem cIn_p (kd : IntKind) (n : Int) (k : Int → Option α) : cIn kd (.int kd n) k = k n := by simp [cIn]
theorem cBn_p (b : Bool) (k : Bool → Option α) : cBn (.bool b) k = k b := nrf rfl
theorem wantV_t (b : Bool) : wantV (.bool b) true = b := by cases b <;> rfl
theorem wantV_f (b : Bool) : wantV (.bool b) false = !b := by cases b <;> rfl
theorem fin1_p (h h' : Heap) (v : Value) : fin1 h v h' = bif below h.length v then some (v, h'.take h.length) else none := nrf rfl
theorem fin2_p (h : Heap) (v : Value) : fin2 h v = bif below h.length v then some (v, h) else none := nrf rfl
theorem shI_p (op : BinOp) (a b : Int) (kd : IntKind) (k : Value → Option α) : shI op a b kd k = (shOp op a b kd).bind k := by unfold shI; cases shOp op a b kd <;> rfl
theorem divI_p (op : BinOp) (a b : Int) (kd : IntKind) (k : Value → Option α) : divI op a b kd k = (intOp op a b kd).bind k := by unfold divI; cases intOp op a b kd <;> rfl

theorem ld1_c {x x' : Value} {h h' : Heap} {k : Value → Option α} (h1 : x = x') (h2 : h = h') : ld1 x h k = ld1 x' h' k := by rw [h1, h2]
theorem ldN_c {n : Nat} {x x' : Value} {h h' : Heap} {k : Value → Option α} (h1 : x = x') (h2 : h = h') : ldN n x h k = ldN n x' h' k := by rw [h1, h2]
theorem st_c {md : Md} {n : Nat} {x x' v v' : Value} {h h' : Heap} {k : Heap → Option α} (h1 : x = x') (h2 : v = v') (h3 : h = h') : st md n x v h k = st md n x' v' h' k := by rw [h1, h2, h3]
theorem fA_c {off : Nat} {x x' : Value} {k : Value → Option α} (h1 : x = x') : fA off x k = fA off x' k := by rw [h1]
theorem ixS_c {size : Nat} {x x' : Value} {n n' : Int} {k : Value → Option α} (h1 : x = x') (h2 : n = n') : ixS size x n k = ixS size x' n' k := by rw [h1, h2]
theorem ixA_c {len size : Nat} {x x' : Value} {n n' : Int} {k : Value → Option α} (h1 : x = x') (h2 : n = n') : ixA len size x n k = ixA len size x' n' k := by rw [h1, h2]
theorem lenS_c {x x' : Value} {k : Value → Option α} (h1 : x = x') : lenS x k = lenS x' k := by rw [h1]
theorem lenT_c {x x' : Value} {k : Value → Option α} (h1 : x = x') : lenT x k = lenT x' k := by rw [h1]
theorem exT_c {x x' : Value} {i : Nat} {k : Value → Option α} (h1 : x = x') : exT x i k = exT x' i k := by rw [h1]
theorem cl_c {x x' : Option (Value × Heap)} {k : Value → Heap → Option α} (h1 : x = x') : cl x k = cl x' k := by rw [h1]
theorem clV_c {rc : Rec} {md : Md} {f f' : Value} {args : List Value} {h h' : Heap} {k : Value → Heap → Option α} (h1 : f = f') (h2 : h = h') : clV rc md f args h k = clV rc md f' args h' k := by rw [h1, h2]
theorem clI_c {P : Program} {rc : Rec} {md : Md} {r r' : Value} {name : String} {args : List Value} {h h' : Heap} {k : Value → Heap → Option α} (h1 : r = r') (h2 : h = h') : clI P rc md r name args h k = clI P rc md r' name args h' k := by rw [h1, h2]
theorem cIn_c {kd : IntKind} {x x' : Value} {k : Int → Option α} (h1 : x = x') : cIn kd x k = cIn kd x' k := by rw [h1]
theorem cBn_c {x x' : Value} {k : Bool → Option α} (h1 : x = x') : cBn x k = cBn x' k := by rw [h1]
theorem bind_c {β : Type} {x x' : Option β} {k : β → Option α} (h1 : x = x') : x.bind k = x'.bind k := by rw [h1]
theorem cond_c {β : Type} {c c' : Bool} {x y : β} (h1 : c = c') : cond c x y = cond c' x y := by rw [h1]
theorem shI_c {op : BinOp} {a b a' b' : Int} {kd : IntKind} {k : Value → Option α} (h1 : a = a') (h2 : b = b') : shI op a b kd k = shI op a' b' kd k := by rw [h1, h2]
theorem divI_c {op : BinOp} {a b a' b' : Int} {kd : IntKind} {k : Value → Option α} (h1 : a = a') (h2 : b = b') : divI op a b kd k = divI op a' b' kd k := by rw [h1, h2]
theorem aBin_c {P : Program} {op : BinOp} {ty : TypeId} {x y x' y' : Value} {k : Value → Option α} (h1 : x = x') (h2 : y = y') : aBin P op ty x y k = aBin P op ty x' y' k := by rw [h1, h2]
theorem aUn_c {op : UnOp} {x x' : Value} {k : Value → Option α} (h1 : x = x') : aUn op x k = aUn op x' k := by rw [h1]
theorem aConv_c {P : Program} {s d : TypeId} {x x' : Value} {k : Value → Option α} (h1 : x = x') : aConv P s d x k = aConv P s d x' k := by rw [h1]
theorem aBuild_c {P : Program} {ty : TypeId} {l l' : List (Nat × Value)} {k : Value → Option α} (h1 : l = l') : aBuild P ty l k = aBuild P ty l' k := by rw [h1]
theorem aBuildSlice_c {P : Program} {ty : TypeId} {n : Nat} {l l' : List (Nat × Value)} {h h' : Heap} {k : Value → Heap → Option α} (h1 : l = l') (h2 : h = h') : aBuildSlice P ty n l h k = aBuildSlice P ty n l' h' k := by rw [h1, h2]
theorem aMakeSlice_c {P : Program} {ty : TypeId} {x y x' y' : Value} {h h' : Heap} {k : Value → Heap → Option α} (h1 : x = x') (h2 : y = y') (h3 : h = h') : aMakeSlice P ty x y h k = aMakeSlice P ty x' y' h' k := by rw [h1, h2, h3]
theorem aSlice_c {P : Program} {ty : TypeId} {x x' : Value} {lo lo' hi hi' mx mx' : Option Value} {k : Value → Option α} (h1 : x = x') (h2 : lo = lo') (h3 : hi = hi') (h4 : mx = mx') : aSlice P ty x lo hi mx k = aSlice P ty x' lo' hi' mx' k := by rw [h1, h2, h3, h4]
theorem aField_c {P : Program} {ty : TypeId} {x x' : Value} {i : Nat} {k : Value → Option α} (h1 : x = x') : aField P ty x i k = aField P ty x' i k := by rw [h1]
theorem aIndexAddr_c {P : Program} {ty : TypeId} {x x' y y' : Value} {k : Value → Option α} (h1 : x = x') (h2 : y = y') : aIndexAddr P ty x y k = aIndexAddr P ty x' y' k := by rw [h1, h2]
theorem aIndex_c {P : Program} {ty : TypeId} {x x' y y' : Value} {k : Value → Option α} (h1 : x = x') (h2 : y = y') : aIndex P ty x y k = aIndex P ty x' y' k := by rw [h1, h2]
theorem aAssert_c {P : Program} {ty : TypeId} {x x' : Value} {ok : Bool} {k : Value → Option α} (h1 : x = x') : aAssert P x ty ok k = aAssert P x' ty ok k := by rw [h1]
theorem aBuiltin_c {P : Program} {md : Md} {b : Builtin} {tys : Array TypeId} {args args' : List Value} {h h' : Heap} {k : Value → Heap → Option α} (h1 : args = args') (h2 : h = h') : aBuiltin P md b tys args h k = aBuiltin P md b tys args' h' k := by rw [h1, h2]
theorem aConvH_c {P : Program} {s d : TypeId} {x x' : Value} {h h' : Heap} {k : Value → Option α} (h1 : x = x') (h2 : h = h') : aConvH P s d x h k = aConvH P s d x' h' k := by rw [h1, h2]
theorem aRange_c {P : Program} {ty : TypeId} {x x' : Value} {h h' : Heap} {k : Value → Heap → Option α} (h1 : x = x') (h2 : h = h') : aRange P ty x h k = aRange P ty x' h' k := by rw [h1, h2]
theorem aNext_c {md : Md} {b : Bool} {x x' : Value} {h h' : Heap} {k : Value → Heap → Option α} (h1 : x = x') (h2 : h = h') : aNext md x b h k = aNext md x' b h' k := by rw [h1, h2]
theorem aMakeMap_c {P : Program} {ty : TypeId} {h h' : Heap} {k : Value → Heap → Option α} (h1 : h = h') : aMakeMap P ty h k = aMakeMap P ty h' k := by rw [h1]
theorem aLookup_c {P : Program} {ty : TypeId} {x x' i i' : Value} {ok : Bool} {h h' : Heap} {k : Value → Option α} (h1 : x = x') (h2 : i = i') (h3 : h = h') : aLookup P ty x i ok h k = aLookup P ty x' i' ok h' k := by rw [h1, h2, h3]
theorem aMapPut_c {P : Program} {md : Md} {ty : TypeId} {x x' i i' v v' : Value} {h h' : Heap} {k : Heap → Option α} (h1 : x = x') (h2 : i = i') (h3 : v = v') (h4 : h = h') : aMapPut P md ty x i v h k = aMapPut P md ty x' i' v' h' k := by rw [h1, h2, h3, h4]
theorem aMakeMap_p {P : Program} {ty elem : TypeId} {kd : KT} {h : Heap} {k : Value → Heap → Option α} (hm : mapTy P ty = some (kd, elem)) : aMakeMap P ty h k = k (.map (some h.length)) (h ++ [.mp kd []]) := by
  unfold aMakeMap; rw [hm]
theorem aLookup_p {P : Program} {ty elem : TypeId} {kd : KT} {b : Nat} {v : Value} {n : MK} {es : List (MK × Value)} {z : Value} {h : Heap} {k : Value → Option α} (hm : mapTy P ty = some (kd, elem)) (hz : zeroV P elem = some z) (hk : keyOf kd v = some n) (hb : h[b]? = some (.mp kd es)) :
    aLookup P ty (.map (some b)) v false h k = k ((mGet es n).getD z) := by
  unfold aLookup; rw [hm]; simp only [hk, hb, if_true]; cases mGet es n <;> simp [hz]
theorem aLookup_ok {P : Program} {ty elem : TypeId} {kd : KT} {b : Nat} {v : Value} {n : MK} {es : List (MK × Value)} {z : Value} {h : Heap} {k : Value → Option α} (hm : mapTy P ty = some (kd, elem)) (hz : zeroV P elem = some z) (hk : keyOf kd v = some n) (hb : h[b]? = some (.mp kd es)) :
    aLookup P ty (.map (some b)) v true h k = k (.tuple #[(mGet es n).getD z, .bool (mGet es n).isSome]) := by
  unfold aLookup; rw [hm]; simp only [hk, hb, if_true]; cases mGet es n <;> simp [hz]
theorem aMapPut_p {P : Program} {md : Md} {ty elem : TypeId} {kd : KT} {b : Nat} {i : Value} {n : MK} {v : Value} {es : List (MK × Value)} {h : Heap} {k : Heap → Option α} (hm : mapTy P ty = some (kd, elem)) (hk : keyOf kd i = some n) (hb : h[b]? = some (.mp kd es)) (hv : closed v = true) (hro : md.ro ≤ b) :
    aMapPut P md ty (.map (some b)) i v h k = k (h.set b (.mp kd (mPut es n v))) := by
  unfold aMapPut; rw [hm]; simp [hk, hb, hv, hro]
theorem aMapPut_q {P : Program} {md : Md} {ty elem : TypeId} {kd : KT} {b : Nat} {i : Value} {n : MK} {v : Value} {es : List (MK × Value)} {h : Heap} {k : Heap → Option α} (hm : mapTy P ty = some (kd, elem)) (hk : keyOf kd i = some n) (hb : h[b]? = some (.mp kd es)) (hl : md.lim ≤ b) (hro : md.ro ≤ b) :
    aMapPut P md ty (.map (some b)) i v h k = k (h.set b (.mp kd (mPut es n v))) := by
  unfold aMapPut; rw [hm]; simp [hk, hb, hl, hro]
theorem aMapDel_p {P : Program} {md : Md} {ty elem : TypeId} {tys : Array TypeId} {kd : KT} {b : Nat} {i : Value} {n : MK} {es : List (MK × Value)} {h : Heap} {k : Value → Heap → Option α} (ht : tys[0]? = some ty) (hm : mapTy P ty = some (kd, elem)) (hk : keyOf kd i = some n) (hb : h[b]? = some (.mp kd es)) (hro : md.ro ≤ b) :
    aBuiltin P md .delete tys [.map (some b), i] h k = k (.tuple #[]) (h.set b (.mp kd (mDel es n))) := by
  unfold aBuiltin; simp only [ht]; unfold aMapDel; rw [hm]; simp [hk, hb, hro]
theorem keyOf_1 {kd : IntKind} {n : Int} : keyOf (.one kd) (.int kd n) = some [n] := if_pos rfl
theorem keyOf_2 {kd : IntKind} {a b : Int} : keyOf (.two kd) (.agg #[.int kd a, .int kd b]) = some [a, b] := if_pos ⟨rfl, rfl⟩
theorem mGet_put (es : List (MK × Value)) (n : MK) (v : Value) (m : MK) : mGet (mPut es n v) m = if m = n then some v else mGet es m := by
  induction es with
  | nil =>
    simp only [mPut, mGet]
    by_cases h : m = n
    · rw [if_pos h, if_pos h.symm]
    · rw [if_neg h, if_neg fun e => h e.symm]
  | cons e r ih =>
    obtain ⟨a, u⟩ := e
    simp only [mPut]
    by_cases ha : a = n
    · subst ha
      rw [if_pos rfl]; simp only [mGet]
      by_cases hm : m = a
      · subst hm; rw [if_pos rfl, if_pos rfl]
      · have hn : ¬ a = m := fun e => hm e.symm
        rw [if_neg hn, if_neg hn, if_neg hm]
    · rw [if_neg ha]; simp only [mGet, ih]
      by_cases hm : m = n
      · subst hm; rw [if_neg ha, if_pos rfl, if_pos rfl]
      · rw [if_neg hm, if_neg hm]
/-- No key twice. -/
def mOk : List (MK × Value) → Prop
  | [] => True
  | (a, _) :: r => mGet r a = none ∧ mOk r
theorem mOk_put {es : List (MK × Value)} {n : MK} {v : Value} (h : mOk es) : mOk (mPut es n v) := by
  induction es with
  | nil => exact ⟨rfl, trivial⟩
  | cons e r ih =>
    obtain ⟨a, u⟩ := e
    simp only [mPut]
    by_cases ha : a = n
    · subst ha; rw [if_pos rfl]; exact h
    · rw [if_neg ha]; exact ⟨by rw [mGet_put, if_neg ha]; exact h.1, ih h.2⟩
theorem mGet_del (es : List (MK × Value)) (n : MK) (m : MK) (h : mOk es) : mGet (mDel es n) m = if m = n then none else mGet es m := by
  induction es with
  | nil => simp [mDel, mGet]
  | cons e r ih =>
    obtain ⟨a, u⟩ := e
    simp only [mDel]
    by_cases ha : a = n
    · subst ha
      rw [if_pos rfl]
      by_cases hm : m = a
      · subst hm; rw [if_pos rfl]; exact h.1
      · rw [if_neg hm]; simp only [mGet]; rw [if_neg fun e => hm e.symm]
    · rw [if_neg ha]; simp only [mGet, ih h.2]
      by_cases hm : m = n
      · subst hm; simp only [if_true, if_neg ha]
      · simp only [if_neg hm]
theorem mOk_del {es : List (MK × Value)} {n : MK} (h : mOk es) : mOk (mDel es n) := by
  induction es with
  | nil => exact trivial
  | cons e r ih =>
    obtain ⟨a, u⟩ := e
    simp only [mDel]
    by_cases ha : a = n
    · rw [if_pos ha]; exact h.2
    · rw [if_neg ha]
      refine ⟨?_, ih h.2⟩
      rw [mGet_del _ _ _ h.2]
      split
      · rfl
      · exact h.1
end

attribute [congr] aConvH_c aRange_c aNext_c aMakeMap_c aLookup_c aMapPut_c ld1_c ldN_c st_c fA_c ixS_c ixA_c ixSV_c ixAV_c lenS_c lenT_c exT_c cl_c clV_c clI_c cIn_c cBn_c shI_c divI_c aBin_c aUn_c aConv_c aBuild_c aBuildSlice_c aMakeSlice_c aSlice_c aField_c aIndexAddr_c aIndex_c aAssert_c aBuiltin_c

theorem rd_old {h : Heap} {bs : List Blk} {b i : Nat} (hb : b < h.length) : rd (h ++ bs) b i = rd h b i := by unfold rd; rw [List.getElem?_append_left hb]
theorem rd_new0 (h : Heap) (bs : List Blk) (i : Nat) : rd (h ++ bs) h.length i = rd bs 0 i := by unfold rd; rw [List.getElem?_append_right (Nat.le_refl _), Nat.sub_self]
theorem rd_new (h : Heap) (bs : List Blk) (n i : Nat) : rd (h ++ bs) (h.length + n) i = rd bs n i := by unfold rd; rw [List.getElem?_append_right (Nat.le_add_right _ _), Nat.add_sub_cancel_left]
theorem rd_zero (b : Blk) (bs : List Blk) (i : Nat) : rd (b :: bs) 0 i = b.cells[i]? := nrf rfl
theorem rd_succ (b : Blk) (bs : List Blk) (n i : Nat) : rd (b :: bs) (n + 1) i = rd bs n i := by unfold rd; rw [List.getElem?_cons_succ]
theorem rdN_old {h : Heap} {bs : List Blk} {b i n : Nat} (hb : b < h.length) : rdN (h ++ bs) b i n = rdN h b i n := by unfold rdN; rw [List.getElem?_append_left hb]
theorem rdN_new0 (h : Heap) (bs : List Blk) (i m : Nat) : rdN (h ++ bs) h.length i m = rdN bs 0 i m := by unfold rdN; rw [List.getElem?_append_right (Nat.le_refl _), Nat.sub_self]
theorem rdN_new (h : Heap) (bs : List Blk) (n i m : Nat) : rdN (h ++ bs) (h.length + n) i m = rdN bs n i m := by unfold rdN; rw [List.getElem?_append_right (Nat.le_add_right _ _), Nat.add_sub_cancel_left]
theorem rdN_zero (b : Blk) (bs : List Blk) (i m : Nat) : rdN (b :: bs) 0 i m = if i + m ≤ b.cells.length then some ((b.cells.drop i).take m) else none := nrf rfl
theorem rdN_succ (b : Blk) (bs : List Blk) (n i m : Nat) : rdN (b :: bs) (n + 1) i m = rdN bs n i m := by unfold rdN; rw [List.getElem?_cons_succ]

theorem wrN_new {md : Md} {h : Heap} {bs : List Blk} {n i : Nat} {cs vs : List Value} (hn : bs[n]? = some (.own cs)) (hro : md.ro ≤ h.length) (hlim : md.lim ≤ h.length) (hi : i + vs.length ≤ cs.length) :
    wrN md (h ++ bs) (h.length + n) i vs = some (h ++ bs.set n (.own (lay cs i vs))) := by
  unfold wrN
  rw [List.getElem?_append_right (Nat.le_add_right _ _), Nat.add_sub_cancel_left, hn]
  simp only []
  rw [if_pos hi, if_pos ⟨by omega, .inl (by omega)⟩, List.set_append_right _ _ (Nat.le_add_right _ _), Nat.add_sub_cancel_left]
theorem wrN_new0 {md : Md} {h : Heap} {bs : List Blk} {i : Nat} {cs vs : List Value} (hro : md.ro ≤ h.length) (hlim : md.lim ≤ h.length) (hi : i + vs.length ≤ cs.length) :
    wrN md (h ++ .own cs :: bs) h.length i vs = some (h ++ .own (lay cs i vs) :: bs) := wrN_new (n := 0) rfl hro hlim hi
theorem wrN_new1 {md : Md} {h : Heap} {b0 : Blk} {bs : List Blk} {i : Nat} {cs vs : List Value} (hro : md.ro ≤ h.length) (hlim : md.lim ≤ h.length) (hi : i + vs.length ≤ cs.length) :
    wrN md (h ++ b0 :: .own cs :: bs) (h.length + 1) i vs = some (h ++ b0 :: .own (lay cs i vs) :: bs) := wrN_new (n := 1) rfl hro hlim hi
theorem wrN_new2 {md : Md} {h : Heap} {b0 b1 : Blk} {bs : List Blk} {i : Nat} {cs vs : List Value} (hro : md.ro ≤ h.length) (hlim : md.lim ≤ h.length) (hi : i + vs.length ≤ cs.length) :
    wrN md (h ++ b0 :: b1 :: .own cs :: bs) (h.length + 2) i vs = some (h ++ b0 :: b1 :: .own (lay cs i vs) :: bs) := wrN_new (n := 2) rfl hro hlim hi
theorem wrN_new3 {md : Md} {h : Heap} {b0 b1 b2 : Blk} {bs : List Blk} {i : Nat} {cs vs : List Value} (hro : md.ro ≤ h.length) (hlim : md.lim ≤ h.length) (hi : i + vs.length ≤ cs.length) :
    wrN md (h ++ b0 :: b1 :: b2 :: .own cs :: bs) (h.length + 3) i vs = some (h ++ b0 :: b1 :: b2 :: .own (lay cs i vs) :: bs) := wrN_new (n := 3) rfl hro hlim hi
theorem wrN_new4 {md : Md} {h : Heap} {b0 b1 b2 b3 : Blk} {bs : List Blk} {i : Nat} {cs vs : List Value} (hro : md.ro ≤ h.length) (hlim : md.lim ≤ h.length) (hi : i + vs.length ≤ cs.length) :
    wrN md (h ++ b0 :: b1 :: b2 :: b3 :: .own cs :: bs) (h.length + 4) i vs = some (h ++ b0 :: b1 :: b2 :: b3 :: .own (lay cs i vs) :: bs) := wrN_new (n := 4) rfl hro hlim hi

theorem take_app (h : Heap) (bs : List Blk) : (h ++ bs).take h.length = h := by simp
theorem app2 (h : Heap) (a bs : List Blk) : (h ++ a) ++ bs = h ++ (a ++ bs) := List.append_assoc _ _ _
theorem len_app1 (h : Heap) (a : Blk) (bs : List Blk) : (h ++ a :: bs).length = (h.length + (a :: bs).length) := List.length_append

section
variable {α : Type} {P : Program} {ty : TypeId} {kd : IntKind} {a b : Int} {k : Value → Option α}
theorem aBin_add : aBin P .add ty (.int kd a) (.int kd b) k = k (.int kd (kd.wrap (a + b))) := by simp [aBin, intOp]
theorem aBin_sub : aBin P .sub ty (.int kd a) (.int kd b) k = k (.int kd (kd.wrap (a - b))) := by simp [aBin, intOp]
theorem aBin_mul : aBin P .mul ty (.int kd a) (.int kd b) k = k (.int kd (kd.wrap (a * b))) := by simp [aBin, intOp]
theorem aBin_and : aBin P .and ty (.int kd a) (.int kd b) k = k (.int kd (bAnd kd a b)) := by simp [aBin, intOp, bAnd]
theorem aBin_or : aBin P .or ty (.int kd a) (.int kd b) k = k (.int kd (bOr kd a b)) := by simp [aBin, intOp, bOr]
theorem aBin_eql : aBin P .eql ty (.int kd a) (.int kd b) k = k (.bool (a == b)) := by simp [aBin, intOp]
theorem aBin_neq : aBin P .neq ty (.int kd a) (.int kd b) k = k (.bool (a != b)) := by simp [aBin, intOp]
theorem aBin_lss : aBin P .lss ty (.int kd a) (.int kd b) k = k (.bool (decide (a < b))) := by simp [aBin, intOp]
theorem aBin_leq : aBin P .leq ty (.int kd a) (.int kd b) k = k (.bool (decide (a ≤ b))) := by simp [aBin, intOp]
theorem aBin_gtr : aBin P .gtr ty (.int kd a) (.int kd b) k = k (.bool (decide (b < a))) := by simp [aBin, intOp]
theorem aBin_geq : aBin P .geq ty (.int kd a) (.int kd b) k = k (.bool (decide (b ≤ a))) := by simp [aBin, intOp]
theorem aBin_quo (hb : b ≠ 0) : aBin P .quo ty (.int kd a) (.int kd b) k = k (.int kd (kd.wrap (a.tdiv b))) := by simp [aBin, intOp, hb]
theorem aBin_rem (hb : b ≠ 0) : aBin P .rem ty (.int kd a) (.int kd b) k = k (.int kd (a.tmod b)) := by simp [aBin, intOp, hb]
theorem aBin_eqlB {a b : Bool} (h : P.underlying ty = some .bool) : aBin P .eql ty (.bool a) (.bool b) k = k (.bool (a == b)) := by simp [aBin, aEq, h]
theorem aBin_neqB {a b : Bool} (h : P.underlying ty = some .bool) : aBin P .neq ty (.bool a) (.bool b) k = k (.bool (a != b)) := by simp [aBin, aEq, h]; cases a <;> cases b <;> rfl
theorem aBin_eqlP {e : TypeId} {b o : Nat} (h : P.underlying ty = some (.pointer e)) : aBin P .eql ty (.pointer (some ⟨b, o, none⟩)) (.pointer none) k = k (.bool false) := by simp [aBin, aEq, h]
theorem aBin_eqlN {e : TypeId} (h : P.underlying ty = some (.pointer e)) : aBin P .eql ty (.pointer none) (.pointer none) k = k (.bool true) := by simp [aBin, aEq, h]
theorem aBin_neqP {e : TypeId} {b o : Nat} (h : P.underlying ty = some (.pointer e)) : aBin P .neq ty (.pointer (some ⟨b, o, none⟩)) (.pointer none) k = k (.bool true) := by simp [aBin, aEq, h]
theorem aBin_neqN {e : TypeId} (h : P.underlying ty = some (.pointer e)) : aBin P .neq ty (.pointer none) (.pointer none) k = k (.bool false) := by simp [aBin, aEq, h]
theorem wantV_u {b : Bool} : wantV undef b = false := nrf rfl
theorem aUn_not {b : Bool} : aUn .not (.bool b) k = k (.bool !b) := nrf rfl
theorem aUn_neg : aUn .neg (.int kd a) k = k (.int kd (kd.wrap (0 - a))) := nrf rfl
/-- Two structs of known kinds of cells. -/
theorem aBin_eqlA {xs ys : List Value} {ks : List CK} {r : Bool} (hg : P.eqGuardType P.depth ty = false) (hd : (P.underlying ty).any isAggD = true) (hk : kindsOf P 8 ty = some ks)
    (hx : xs.length = ks.length) (hy : ys.length = ks.length) (hr : cellsEq ks xs ys = some r) : aBin P .eql ty (.agg xs.toArray) (.agg ys.toArray) k = k (.bool r) := by
  obtain ⟨d, hd, ha⟩ := (Option.any_eq_true _ _).1 hd
  simp [aBin, aEq, hg, hd, ha, hk, hx, hy, hr]
theorem aBin_neqA {xs ys : List Value} {ks : List CK} {r : Bool} (hg : P.eqGuardType P.depth ty = false) (hd : (P.underlying ty).any isAggD = true) (hk : kindsOf P 8 ty = some ks)
    (hx : xs.length = ks.length) (hy : ys.length = ks.length) (hr : cellsEq ks xs ys = some r) : aBin P .neq ty (.agg xs.toArray) (.agg ys.toArray) k = k (.bool !r) := by
  obtain ⟨d, hd, ha⟩ := (Option.any_eq_true _ _).1 hd
  simp [aBin, aEq, hg, hd, ha, hk, hx, hy, hr]
theorem aConv_int {s d : TypeId} {u : TypeDesc} {kd' : IntKind} {a : Int} (hs : P.underlying s = some u) (hd : P.underlying d = some (.int kd)) : aConv P s d (.int kd' a) k = k (.int kd (kd.wrap a)) := by
  simp [aConv, hs, hd]

def eqI4 (a b c d a' b' c' d' : Int) : Bool := a == a' && (b == b' && (c == c' && d == d'))
theorem cellsEq_i {ks : List CK} {k : IntKind} {a b : Int} {xs ys : List Value} {r : Bool} (h : cellsEq ks xs ys = some r) : cellsEq (.i :: ks) (.int k a :: xs) (.int k b :: ys) = some (a == b && r) := by
  simp only [cellsEq, if_true, h]; cases a == b <;> rfl
theorem cellsEq_b {ks : List CK} {a b : Bool} {xs ys : List Value} {r : Bool} (h : cellsEq ks xs ys = some r) : cellsEq (.b :: ks) (.bool a :: xs) (.bool b :: ys) = some (a == b && r) := by
  simp only [cellsEq, h]; cases a == b <;> rfl
theorem cellsEq_n : cellsEq [] [] [] = some true := nrf rfl
end

section
variable (P : Program) (cfg : Cfg)
/-- What comes where a part of a piece of code ends. -/
noncomputable def kAt (rc : Rec) (md : Md) (N : Nat) {α : Type} : Code → List Nat → (Exit → T → Heap → Option α) → Exit → T → Heap → Option α
  | _, [], K => K
  | .seq a b, i :: p, K => if i = 0 then kAt rc md N a p (fun e t h => match e with | .normal => exec P cfg rc md N b K t h | e => K e t h) else kAt rc md N b p K
  | .cond _ a b, i :: p, K => if i = 0 then kAt rc md N a p K else kAt rc md N b p K
  | .block id a, _ :: p, K => kAt rc md N a p (fun e t h => match e with
    | .exit j => bif Nat.beq j id then K .normal t h else K (.exit j) t h
    | e => K e t h)
  | .scope a, _ :: p, K => kAt rc md N a p K
  | _, _, K => K
noncomputable def cut (rc : Rec) (md : Md) (N : Nat) {α : Type} (c : Code) (p : List Nat) (K : Exit → T → Heap → Option α) : T → Heap → Option α :=
  fun t h => exec P cfg rc md N (sub c p) (kAt P cfg rc md N c p K) t h
def rsOf (f : FuncId) : List ResultVar :=
  match P.funcs[f]? with
  | some fn => fn.results.toList
  | none => []
def rndK {σ : Type} (π : T → σ) (e : Exit) (t : T) (h : Heap) : Option ((σ × Heap) ⊕ (Exit × σ × Heap)) :=
  some (match e with | .normal => .inl (π t, h) | e => .inr (e, π t, h))
end
noncomputable def runL {σ α : Type} (g : σ × Heap → Option ((σ × Heap) ⊕ (Exit × σ × Heap))) (K : Exit → σ → Heap → Option α) (s : σ) (h : Heap) : Option α :=
  match loopF g (s, h) with
  | some (e, s, h) => K e s h
  | none => none
theorem runL_eq {σ α : Type} (g : σ × Heap → Option ((σ × Heap) ⊕ (Exit × σ × Heap))) (K : Exit → σ → Heap → Option α) (s : σ) (h : Heap) :
    runL g K s h = (g (s, h)).bind fun x => match x with | .inl (s, h) => runL g K s h | .inr (e, s, h) => K e s h := by
  unfold runL
  rw [loopF_eq]
  cases g (s, h) with
  | none => rfl
  | some x => cases x with
    | inl x => rfl
    | inr x => rfl
section
variable {α : Type} {P : Program} {ty : TypeId} {kd : IntKind} {a b : Int} {k : Value → Option α}
theorem aBin_shl : aBin P .shl ty (.int kd a) (.int .u64 b) k = (shOp .shl a b kd).bind k := by
  simp only [aBin]; cases shOp .shl a b kd <;> rfl
end

section
variable {α : Type}
/-- A load and an effect in no order: the load's cells are the same before and after. -/
noncomputable def cLE (w : Bool) (f : Heap → Option Value) (v : Value) (g g' : Heap) (k : Option α) : Option α :=
  @ite _ (w = true → f g = some v ∧ f g' = some v) (Classical.propDecidable _) k none
theorem cLE_t {w : Bool} {f : Heap → Option Value} {v : Value} {g g' : Heap} {k : Option α} (h1 : f g = some v) (h2 : f g' = some v) : cLE w f v g g' k = k := if_pos fun _ => ⟨h1, h2⟩
theorem cLE_f {f : Heap → Option Value} {v : Value} {g g' : Heap} {k : Option α} : cLE false f v g g' k = k := if_pos fun h => (by cases h)
theorem cLE_c {w w' : Bool} {f : Heap → Option Value} {v : Value} {g g' : Heap} {k : Option α} (h : w = w') : cLE w f v g g' k = cLE w' f v g g' k := by rw [h]
end
attribute [congr] cLE_c

theorem below1_int {n : Nat} {kd : IntKind} {x : Int} : below1 n (.int kd x) = true := nrf rfl
theorem below1_bool {n : Nat} {b : Bool} : below1 n (.bool b) = true := nrf rfl
theorem below1_pn {n : Nat}  : below1 n (.pointer none) = true := nrf rfl
theorem below1_sn {n : Nat} {l c : Nat} : below1 n (.slice none l c) = true := nrf rfl
theorem below1_nf {n : Nat}  : below1 n (.nilFunc) = true := nrf rfl
theorem below1_ni {n : Nat}  : below1 n (.nilIface) = true := nrf rfl
theorem below1_str {n : Nat} {s : ByteArray} : below1 n (.string s) = true := nrf rfl
theorem below1_p {n b o : Nat} : below1 n (.pointer (some ⟨b, o, none⟩)) = Nat.blt b n := nrf rfl
theorem below1_s {n b o l c : Nat} : below1 n (.slice (some ⟨b, o, none⟩) l c) = Nat.blt b n := nrf rfl
theorem below2_int {n : Nat} {kd : IntKind} {x : Int} : below2 n (.int kd x) = true := nrf rfl
theorem below2_bool {n : Nat} {b : Bool} : below2 n (.bool b) = true := nrf rfl
theorem below2_pn {n : Nat}  : below2 n (.pointer none) = true := nrf rfl
theorem below2_sn {n : Nat} {l c : Nat} : below2 n (.slice none l c) = true := nrf rfl
theorem below2_nf {n : Nat}  : below2 n (.nilFunc) = true := nrf rfl
theorem below2_ni {n : Nat}  : below2 n (.nilIface) = true := nrf rfl
theorem below2_str {n : Nat} {s : ByteArray} : below2 n (.string s) = true := nrf rfl
theorem below2_p {n b o : Nat} : below2 n (.pointer (some ⟨b, o, none⟩)) = Nat.blt b n := nrf rfl
theorem below2_s {n b o l c : Nat} : below2 n (.slice (some ⟨b, o, none⟩) l c) = Nat.blt b n := nrf rfl
theorem below_int {n : Nat} {kd : IntKind} {x : Int} : below n (.int kd x) = true := nrf rfl
theorem below_bool {n : Nat} {b : Bool} : below n (.bool b) = true := nrf rfl
theorem below_pn {n : Nat}  : below n (.pointer none) = true := nrf rfl
theorem below_sn {n : Nat} {l c : Nat} : below n (.slice none l c) = true := nrf rfl
theorem below_nf {n : Nat}  : below n (.nilFunc) = true := nrf rfl
theorem below_ni {n : Nat}  : below n (.nilIface) = true := nrf rfl
theorem below_str {n : Nat} {s : ByteArray} : below n (.string s) = true := nrf rfl
theorem below_p {n b o : Nat} : below n (.pointer (some ⟨b, o, none⟩)) = Nat.blt b n := nrf rfl
theorem below_s {n b o l c : Nat} : below n (.slice (some ⟨b, o, none⟩) l c) = Nat.blt b n := nrf rfl
theorem below2_agg {n : Nat} {l : List Value} : below2 n (.agg l.toArray) = l.all (below1 n) := nrf rfl
theorem below_agg {n : Nat} {l : List Value} : below n (.agg l.toArray) = l.all (below2 n) := nrf rfl
theorem below_tup {n : Nat} {l : List Value} : below n (.tuple l.toArray) = l.all (below2 n) := nrf rfl
theorem below2_if {n : Nat} {t : TypeId} {v : Value} : below2 n (.iface t v) = below1 n v := nrf rfl
theorem below_if {n : Nat} {t : TypeId} {v : Value} : below n (.iface t v) = below1 n v := nrf rfl

theorem alone_p (h h' : Heap) (v : Value) : alone h (some (v, h')) = bif plain2 v then some (v, h) else none := nrf rfl
theorem plain2_tup {l : List Value} : plain2 (.tuple l.toArray) = l.all plain1 := nrf rfl
theorem plain2_agg {l : List Value} : plain2 (.agg l.toArray) = l.all scalar := nrf rfl
theorem plain2_int {k : IntKind} {n : Int} : plain2 (.int k n) = true := nrf rfl
theorem plain2_bool {b : Bool} : plain2 (.bool b) = true := nrf rfl
theorem plain2_str {s : ByteArray} : plain2 (.string s) = true := nrf rfl
theorem plain1_agg {l : List Value} : plain1 (.agg l.toArray) = l.all scalar := nrf rfl
theorem plain1_int {k : IntKind} {n : Int} : plain1 (.int k n) = true := nrf rfl
theorem plain1_bool {b : Bool} : plain1 (.bool b) = true := nrf rfl
theorem plain1_str {s : ByteArray} : plain1 (.string s) = true := nrf rfl
theorem scalar_int {k : IntKind} {n : Int} : scalar (.int k n) = true := nrf rfl
theorem scalar_bool {b : Bool} : scalar (.bool b) = true := nrf rfl
theorem scalar_str {s : ByteArray} : scalar (.string s) = true := nrf rfl
theorem rd0 (b : Blk) (bs : List Blk) (n i : Nat) : rd (b :: bs) (n + 1) i = rd bs n i := rd_succ b bs n i
theorem wrN_z {cs vs : List Value} {bs : List Blk} {i : Nat} : wrN ⟨0, 0⟩ (.own cs :: bs) 0 i vs = if i + vs.length ≤ cs.length then some (.own (lay cs i vs) :: bs) else none := by
  unfold wrN; simp
theorem wrN_1 {b : Blk} {cs vs : List Value} {bs : List Blk} {i : Nat} : wrN ⟨0, 0⟩ (b :: .own cs :: bs) 1 i vs = if i + vs.length ≤ cs.length then some (b :: .own (lay cs i vs) :: bs) else none := by
  unfold wrN; simp
theorem wrN_2 {b c : Blk} {cs vs : List Value} {bs : List Blk} {i : Nat} : wrN ⟨0, 0⟩ (b :: c :: .own cs :: bs) 2 i vs = if i + vs.length ≤ cs.length then some (b :: c :: .own (lay cs i vs) :: bs) else none := by
  unfold wrN; simp
theorem wrN_3 {b c d : Blk} {cs vs : List Value} {bs : List Blk} {i : Nat} : wrN ⟨0, 0⟩ (b :: c :: d :: .own cs :: bs) 3 i vs = if i + vs.length ≤ cs.length then some (b :: c :: d :: .own (lay cs i vs) :: bs) else none := by
  unfold wrN; simp

end Go.Det
