/- The frame's interpreter: a deterministic reading of the model's code over an abstract heap. -/
import Derived.Orders
import Derived.Scope
set_option autoImplicit false
set_option linter.unusedVariables false
set_option linter.unusedSimpArgs false
namespace Go.Det

abbrev T := Nat → Value
def upd (t : T) (i : Nat) (v : Value) : T := fun j => bif Nat.beq j i then v else t j

/-- Kinds of a map's keys: whole numbers, or pairs of them. -/
inductive KT where
  | one (kd : IntKind)
  | two (kd : IntKind)
deriving DecidableEq
abbrev MK := List Int

inductive Blk where
  | dead
  | ro (cs : List Value)
  | own (cs : List Value)
  | mp (kd : KT) (es : List (MK × Value))
  | si (s : ByteArray) (p : Nat)

def Blk.cells : Blk → List Value
  | .dead => []
  | .ro cs => cs
  | .own cs => cs
  | .mp _ _ => []
  | .si _ _ => []

abbrev Heap := List Blk

/-- A function's mode, and what stands for the functions that are taken by their contracts (mode 4). -/
structure Cfg where
  m : FuncId → Nat
  x : FuncId → List Value → Heap → Option Value
instance : CoeFun Cfg (fun _ => FuncId → Nat) := ⟨Cfg.m⟩


/-- A value that bears no address. -/
def scalar : Value → Bool
  | .bool _ | .int _ _ | .float _ _ | .complex _ _ _ | .string _ | .pointer none | .map none | .slice none _ _ | .nilFunc | .nilIface => true
  | _ => false

def closed : Value → Bool
  | .agg cs => cs.toList.all scalar
  | .tuple cs => cs.toList.all scalar
  | .iface _ v => scalar v
  | v => scalar v

/-- A value of one cell. -/
def isCell : Value → Bool
  | .agg _ => false
  | .tuple _ => false
  | _ => true

/-- All of a value's addresses are below a number (looked at no deeper than the values of these programs go). -/
def below1 (n : Nat) : Value → Bool
  | .pointer (some a) => Nat.blt a.block n
  | .slice (some a) _ _ => Nat.blt a.block n
  | .map (some b) => Nat.blt b n
  | v => scalar v
def below2 (n : Nat) : Value → Bool
  | .agg cs => cs.toList.all (below1 n)
  | .iface _ v => below1 n v
  | v => below1 n v
def below (n : Nat) : Value → Bool
  | .tuple cs => cs.toList.all (below2 n)
  | .agg cs => cs.toList.all (below2 n)
  | v => below2 n v

def ev (t : T) : Operand → Value
  | .tmp i => t i
  | .const v => v
  | .global _ => undef
  | .func f => .func (.func f) #[] #[]

def rdN (h : Heap) (b i n : Nat) : Option (List Value) :=
  match h[b]? with
  | some k => if i + n ≤ k.cells.length then some ((k.cells.drop i).take n) else none
  | none => none

def rd (h : Heap) (b i : Nat) : Option Value :=
  match h[b]? with
  | some k => k.cells[i]?
  | none => none

/-- A list with others laid over it from a place on. -/
def lay (cs : List Value) (i : Nat) : List Value → List Value
  | [] => cs
  | v :: vs => lay (cs.set i v) (i + 1) vs

/-- What may be written: no block below `ro`; into a block below `lim` values without addresses alone. -/
structure Md where
  ro : Nat
  lim : Nat

def wrN (md : Md) (h : Heap) (b i : Nat) (vs : List Value) : Option Heap :=
  match h[b]? with
  | some (.own cs) =>
    if i + vs.length ≤ cs.length then
      (if md.ro ≤ b ∧ (md.lim ≤ b ∨ vs.all scalar = true) then some (h.set b (.own (lay cs i vs))) else none)
    else none
  | _ => none

section
variable (P : Program)

def isAggD : TypeDesc → Bool
  | .struct _ | .array _ _ => true
  | _ => false

/-- The size of a type in cells, and whether it is a struct or array. -/
def tyOf (ty : TypeId) : Option (Bool × Nat) :=
  match P.underlying ty, P.info? ty with
  | some d, some i => some (isAggD d, i.size)
  | _, _ => none

variable {α : Type}

def aLoad (ty : TypeId) (x : Value) (h : Heap) (k : Value → Option α) : Option α :=
  match x with
  | .pointer (some ⟨b, i, none⟩) =>
    match tyOf P ty with
    | some (true, n) => match rdN h b i n with | some l => k (.agg l.toArray) | none => none
    | some (false, _) => match rd h b i with | some v => k v | none => none
    | none => none
  | _ => none

def aStore (md : Md) (ty : TypeId) (x v : Value) (h : Heap) (k : Heap → Option α) : Option α :=
  match x with
  | .pointer (some ⟨b, i, none⟩) =>
    match tyOf P ty with
    | some (_, n) =>
      if v.cells.toList.length = n then
        (if v.cells.toList.all isCell = true then (match wrN md h b i v.cells.toList with | some h' => k h' | none => none) else none)
      else none
    | none => none
  | _ => none

def intOp (op : BinOp) (a b : Int) (kd : IntKind) : Option Value :=
  match op with
  | .add => some (.int kd (kd.wrap (a + b)))
  | .sub => some (.int kd (kd.wrap (a - b)))
  | .mul => some (.int kd (kd.wrap (a * b)))
  | .quo => if b = 0 then none else some (.int kd (kd.wrap (a.tdiv b)))
  | .rem => if b = 0 then none else some (.int kd (a.tmod b))
  | .and => some (.int kd (kd.wrap ((BitVec.ofInt kd.bits a &&& BitVec.ofInt kd.bits b).toNat)))
  | .or => some (.int kd (kd.wrap ((BitVec.ofInt kd.bits a ||| BitVec.ofInt kd.bits b).toNat)))
  | .xor => some (.int kd (kd.wrap ((BitVec.ofInt kd.bits a ^^^ BitVec.ofInt kd.bits b).toNat)))
  | .andNot => some (.int kd (kd.wrap ((BitVec.ofInt kd.bits a &&& ~~~ BitVec.ofInt kd.bits b).toNat)))
  | .eql => some (.bool (a == b))
  | .neq => some (.bool (a != b))
  | .lss => some (.bool (a < b))
  | .leq => some (.bool (a ≤ b))
  | .gtr => some (.bool (a > b))
  | .geq => some (.bool (a ≥ b))
  | _ => none

def shOp (op : BinOp) (a b : Int) (kd : IntKind) : Option Value :=
  if b < 0 then none else
  match op with
  | .shl => some (.int kd (kd.wrap (a * 2 ^ (min b.toNat kd.bits))))
  | .shr => some (.int kd (a.fdiv (2 ^ (min b.toNat kd.bits))))
  | _ => none

/-- The kinds of cells that are held against each other one by one. -/
inductive CK where | i | b | s

/-- Cells of these kinds, one by one, as far as they are the same. -/
def cellsEq : List CK → List Value → List Value → Option Bool
  | [], [], [] => some true
  | .i :: ks, .int k a :: xs, .int k' b :: ys => if k = k' then (bif a == b then cellsEq ks xs ys else some false) else none
  | .b :: ks, .bool a :: xs, .bool b :: ys => bif a == b then cellsEq ks xs ys else some false
  | .s :: ks, .string a :: xs, .string b :: ys => bif a.data.toList == b.data.toList then cellsEq ks xs ys else some false
  | _, _, _ => none

def fieldKinds (f : TypeId → Option (List CK)) : List Field → Nat → Option (List CK)
  | [], _ => some []
  | fd :: fs, n =>
    if (fd.name == "_") = false ∧ fd.offset = n then
      (match f fd.type with
      | some l => if l.length = P.cellsOf fd.type then (match fieldKinds f fs (n + l.length) with | some r => some (l ++ r) | none => none) else none
      | none => none)
    else none

def repK (n : Nat) (l : List CK) : List CK :=
  match n with
  | 0 => []
  | n + 1 => l ++ repK n l

/-- The kinds of a type's cells, where all of them are whole numbers, bools or strings. -/
def kindsOf : Nat → TypeId → Option (List CK)
  | 0, _ => none
  | d + 1, ty =>
    match P.underlying ty with
    | some .bool => some [.b]
    | some (.int _) => some [.i]
    | some .string => some [.s]
    | some (.struct fs) => bif P.stoodInHeld ty then none else fieldKinds P (kindsOf d) fs.toList 0
    | some (.array n e) => (match P.info? e with | some _ => (match kindsOf d e with | some l => if l.length = P.cellsOf e then some (repK n l) else none | none => none) | none => none)
    | _ => none

def aEq (ty : TypeId) (x y : Value) : Option Bool :=
  match x, y with
  | .bool a, .bool b => (match P.underlying ty with | some .bool => some (a == b) | _ => none)
  | .pointer none, .pointer none => (match P.underlying ty with | some (.pointer _) => some true | _ => none)
  | .pointer none, .pointer (some _) | .pointer (some _), .pointer none => (match P.underlying ty with | some (.pointer _) => some false | _ => none)
  | .slice none _ _, .slice none _ _ => (match P.underlying ty with | some (.slice _) => some true | _ => none)
  | .slice none _ _, .slice (some _) _ _ | .slice (some _) _ _, .slice none _ _ => (match P.underlying ty with | some (.slice _) => some false | _ => none)
  | .nilFunc, .func _ _ _ | .func _ _ _, .nilFunc => (match P.underlying ty with | some (.func _ _ _) => some false | _ => none)
  | .nilIface, .iface _ _ | .iface _ _, .nilIface => (match P.underlying ty with | some (.interface _) => some false | _ => none)
  | .agg xs, .agg ys => bif P.eqGuardType P.depth ty then none else (match P.underlying ty with
    | some d => bif isAggD d then (match kindsOf P 8 ty with
      | some ks => if xs.toList.length = ks.length ∧ ys.toList.length = ks.length then cellsEq ks xs.toList ys.toList else none
      | none => none) else none
    | none => none)
  | _, _ => none

def aBin (op : BinOp) (ty : TypeId) (x y : Value) (k : Value → Option α) : Option α :=
  match x, y with
  | .int ka a, .int kb b =>
    (match op with
    | .shl => (match shOp .shl a b ka with | some v => k v | none => none)
    | .shr => (match shOp .shr a b ka with | some v => k v | none => none)
    | op => if ka = kb then (match intOp op a b ka with | some v => k v | none => none) else none)
  | .string a, .string b =>
    (match op with
    | .eql => k (.bool (a.data.toList == b.data.toList))
    | .neq => k (.bool !(a.data.toList == b.data.toList))
    | .add => if ((a.size + b.size : Nat) : Int) > IntKind.i64.max then none else k (.string (a ++ b))
    | .lss => k (.bool (Op.bytesLess a.data.toList b.data.toList))
    | .leq => k (.bool (Op.bytesLess a.data.toList b.data.toList || (a.data.toList == b.data.toList)))
    | .gtr => k (.bool !(Op.bytesLess a.data.toList b.data.toList || (a.data.toList == b.data.toList)))
    | .geq => k (.bool !(Op.bytesLess a.data.toList b.data.toList))
    | _ => none)
  | x, y =>
    (match op with
    | .eql => (match aEq P ty x y with | some b => k (.bool b) | none => none)
    | .neq => (match aEq P ty x y with | some b => k (.bool !b) | none => none)
    | _ => none)

def aUn (op : UnOp) (x : Value) (k : Value → Option α) : Option α :=
  match op, x with
  | .neg, .int kd n => k (.int kd (kd.wrap (0 - n)))
  | .not, .bool b => k (.bool !b)
  | .xor, .int kd n => k (.int kd (kd.wrap ((BitVec.ofInt kd.bits (if kd.signed then -1 else kd.max) ^^^ BitVec.ofInt kd.bits n).toNat)))
  | _, _ => none

def aConv (src dst : TypeId) (x : Value) (k : Value → Option α) : Option α :=
  match P.underlying src, P.underlying dst, x with
  | some _, some (.int kd), .int _ n => k (.int kd (kd.wrap n))
  | some _, some .string, .string s => k (.string s)
  | some (.int _), some (.float fk), .int _ n => k (.float fk (fk.nearest n))
  | some (.int _), some .string, .int _ n => k (.string (Utf8.encode n))
  | _, _, _ => none

/-- Does a conversion read memory? -/
def convMem (src : TypeId) : Bool :=
  match P.underlying src with
  | some (.slice _) => true
  | _ => false
def intsOf (kd : IntKind) : List Value → Option (List Int)
  | [] => some []
  | .int kd' n :: r => if kd' = kd then (match intsOf kd r with | some l => some (n :: l) | none => none) else none
  | _ => none
/-- The text of bytes. -/
def encBytes (l : List Int) : ByteArray := l.foldl (fun r n => r.push (UInt8.ofNat n.toNat)) ByteArray.empty
/-- The text of runes. -/
def encRunes (l : List Int) : ByteArray := l.foldl (fun r n => r ++ Utf8.encode n) ByteArray.empty
def aConvH (src dst : TypeId) (x : Value) (h : Heap) (k : Value → Option α) : Option α :=
  match P.underlying src, P.underlying dst, x with
  | some (.slice e), some .string, .slice none _ _ => (match P.underlying e with
    | some (.int .u8) => k (.string .empty)
    | some (.int .i32) => k (.string .empty)
    | _ => none)
  | some (.slice e), some .string, .slice (some ⟨b, o, none⟩) n _ =>
    (match P.underlying e, rdN h b o n with
    | some (.int .u8), some l => (match intsOf .u8 l with | some bs => k (.string (encBytes bs)) | none => none)
    | some (.int .i32), some l => (match intsOf .i32 l with | some rs => k (.string (encRunes rs)) | none => none)
    | _, _ => none)
  | _, _, _ => none

/-- A text that is gone through, rune by rune. -/
def aRange (ty : TypeId) (x : Value) (h : Heap) (k : Value → Heap → Option α) : Option α :=
  match P.underlying ty, x with
  | some .string, .string s => k (.pointer (some ⟨h.length, 0, none⟩)) (h ++ [.si s 0])
  | _, _ => none
def aNext (md : Md) (x : Value) (isS : Bool) (h : Heap) (k : Value → Heap → Option α) : Option α :=
  match x, isS with
  | .pointer (some ⟨b, 0, none⟩), true =>
    (match h[b]? with
    | some (.si s p) =>
      if md.ro ≤ b then
        (bif Nat.blt p s.size then k (.tuple #[.bool true, .int .i64 (p : Int), .int .i32 ((Utf8.decode s p).1 : Int)]) (h.set b (.si s (p + (Utf8.decode s p).2)))
        else k (.tuple #[.bool false]) h)
      else none
    | _ => none)
  | _, _ => none

def partOf (f : TypeId) (cs : List Value) (off : Nat) (k : Value → Option α) : Option α :=
  match tyOf P f with
  | some (true, n) => k (.agg ((cs.drop off).take n).toArray)
  | some (false, _) => (match cs[off]? with | some v => k v | none => none)
  | none => none

/-- Values laid at their places; none: a size does not fit. -/
def fillL (place : Nat → Option (Nat × Nat)) (cells : List Value) : List (Nat × Value) → Option (List Value)
  | [] => some cells
  | (i, v) :: rest =>
    match place i with
    | some (off, size) =>
      if v.cells.toList.length = size then (if off + v.cells.toList.length ≤ cells.length then fillL place (lay cells off v.cells.toList) rest else none) else none
    | none => none

def zeroOf (ty : TypeId) : Option (List Value) :=
  match P.info? ty with
  | some i => match i.zero with | some z => some z.cells.toList | none => none
  | none => none

def placeIn (fs : Array Field) (i : Nat) : Option (Nat × Nat) :=
  match fs[i]? with
  | some f => (match P.info? f.type with | some j => some (f.offset, j.size) | none => none)
  | none => none

def aBuild (ty : TypeId) (parts : List (Nat × Value)) (k : Value → Option α) : Option α :=
  match zeroOf P ty with
  | some z =>
    if z.all scalar = true then
      (match P.underlying ty with
      | some (.struct fs) =>
        bif fs.toList.all (fun f => (P.info? f.type).isSome) then
        (match fillL (placeIn P fs) z parts with
        | some l => k (.agg l.toArray)
        | none => none)
        else none
      | some (.array _ e) =>
        (match P.info? e with
        | some j => (match fillL (fun i => some (i * j.size, j.size)) z parts with | some l => k (.agg l.toArray) | none => none)
        | none => none)
      | _ => none)
    else none
  | none => none

def repL (n : Nat) (z : List Value) : List Value :=
  match n with
  | 0 => []
  | n + 1 => z ++ repL n z

def aBuildSlice (ty : TypeId) (len : Nat) (parts : List (Nat × Value)) (h : Heap) (k : Value → Heap → Option α) : Option α :=
  match P.underlying ty with
  | some (.slice e) =>
    (match P.info? e, zeroOf P e with
    | some j, some z =>
      if j.size = z.length ∧ 0 < j.size ∧ len * j.size ≤ 16777216 then
        (if z.all scalar = true then
          (match fillL (fun i => some (i * j.size, j.size)) (repL len z) parts with
          | some l => k (.slice (some ⟨h.length, 0, none⟩) len j.size) (h ++ [.own l])
          | none => none) else none)
      else none
    | _, _ => none)
  | _ => none

def aMakeSlice (ty : TypeId) (len cap : Value) (h : Heap) (k : Value → Heap → Option α) : Option α :=
  match P.underlying ty, len, cap with
  | some (.slice e), .int .i64 l, .int .i64 c =>
    (match P.info? e, zeroOf P e with
    | some j, some z =>
      if j.size = z.length ∧ 0 < j.size ∧ z.all scalar = true then
        (if 0 ≤ l ∧ l ≤ c ∧ c ≤ 9223372036854775807 ∧ j.bytes * c ≤ 140737488355328 then
          k (.slice (some ⟨h.length, 0, none⟩) l.toNat j.size) (h ++ [.own (repL l.toNat z)])
        else none)
      else none
    | _, _ => none)
  | _, _, _ => none

def aSlice (ty : TypeId) (x : Value) (lo hi mx : Option Value) (k : Value → Option α) : Option α :=
  match P.underlying ty, x, mx with
  | some (.slice e), .slice a len cap, none =>
    (match P.info? e with
    | some j =>
      (match (match lo with | some (.int .i64 l) => some l | none => some 0 | _ => none), (match hi with | some (.int .i64 r) => some r | none => some (len : Int) | _ => none) with
      | some l, some r =>
        if 0 ≤ l ∧ l ≤ r ∧ r ≤ (len : Int) ∧ (cap = 0 ∨ cap = j.size) then
          (match a with
          | some ⟨b, o, none⟩ => k (.slice (some ⟨b, o + l.toNat * j.size, none⟩) (r - l).toNat cap)
          | none => if len = 0 ∧ cap = 0 then k (.slice none 0 0) else none
          | _ => none)
        else none
      | _, _ => none)
    | none => none)
  | some (.slice e), .slice a _ _, some (.int .i64 m) =>
    (match lo, hi with
    | none, some (.int .i64 r) =>
      if r = 0 ∧ m = 0 then
        (match P.info? e with
        | some _ => (match a with | some ⟨b, o, none⟩ => k (.slice (some ⟨b, o, none⟩) 0 0) | none => k (.slice none 0 0) | _ => none)
        | none => none)
      else none
    | _, _ => none)
  | some .string, .string s, none =>
    (match (match lo with | some (.int .i64 l) => some l | none => some 0 | _ => none), (match hi with | some (.int .i64 r) => some r | none => some (s.size : Int) | _ => none) with
    | some l, some r => if 0 ≤ l ∧ l ≤ r ∧ r ≤ (s.size : Int) then k (.string (s.extract l.toNat r.toNat)) else none
    | _, _ => none)
  | _, _, _ => none

def aFieldAddr (ty : TypeId) (x : Value) (f : Nat) (k : Value → Option α) : Option α :=
  match P.underlying ty with
  | some (.struct fs) =>
    (match fs[f]? with
    | some fd =>
      (match P.info? fd.type, x with
      | some j, .pointer (some ⟨b, o, none⟩) => bif Nat.beq j.size 0 then none else k (.pointer (some ⟨b, o + fd.offset, none⟩))
      | _, _ => none)
    | none => none)
  | _ => none

def aField (ty : TypeId) (x : Value) (f : Nat) (k : Value → Option α) : Option α :=
  match P.underlying ty with
  | some (.struct fs) =>
    (match fs[f]?, x with
    | some fd, .agg cs => partOf P fd.type cs.toList fd.offset k
    | _, _ => none)
  | _ => none

def aIndexAddr (ty : TypeId) (x i : Value) (k : Value → Option α) : Option α :=
  match i with
  | .int _ n =>
    (match P.underlying ty, x with
    | some (.slice e), .slice (some ⟨b, o, none⟩) len _ =>
      (match P.info? e with
      | some j => if 0 ≤ n ∧ n < (len : Int) then k (.pointer (some ⟨b, o + n.toNat * j.size, none⟩)) else none
      | none => none)
    | some (.array len e), .pointer (some ⟨b, o, none⟩) =>
      (match P.info? e with
      | some j => if 0 ≤ n ∧ n < (len : Int) then k (.pointer (some ⟨b, o + n.toNat * j.size, none⟩)) else none
      | none => none)
    | _, _ => none)
  | _ => none

def aIndex (ty : TypeId) (x i : Value) (k : Value → Option α) : Option α :=
  match i with
  | .int _ n =>
    (match P.underlying ty, x with
    | some (.array len e), .agg cs =>
      (match P.info? e with
      | some j => if 0 ≤ n ∧ n < (len : Int) then partOf P e cs.toList (n.toNat * j.size) k else none
      | none => none)
    | some .string, .string s =>
      if 0 ≤ n then (match s[n.toNat]? with | some b => k (.int .u8 b.toNat) | none => none) else none
    | _, _ => none)
  | _ => none

def aAssert (x : Value) (ty : TypeId) (ok : Bool) (k : Value → Option α) : Option α :=
  match P.underlying ty, x with
  | some (.interface _), _ => none
  | some _, .iface u v =>
    if u = ty then k (bif ok then .tuple #[v, .bool true] else v)
    else (bif ok then (match P.info? ty with | some i => (match i.zero with | some z => bif closed z then k (.tuple #[z, .bool false]) else none | none => none) | none => none) else none)
  | some _, .nilIface =>
    (bif ok then (match P.info? ty with | some i => (match i.zero with | some z => bif closed z then k (.tuple #[z, .bool false]) else none | none => none) | none => none) else none)
  | _, _ => none

/-- The cells that an append adds. -/
def srcCells (size : Nat) (x : Value) (h : Heap) : Option (Nat × List Value) :=
  match x with
  | .slice (some ⟨b, o, none⟩) n _ => (match rdN h b o (n * size) with | some l => some (n, l) | none => none)
  | .slice none n _ => if n = 0 then some (0, []) else none
  | _ => none

def aAppend (md : Md) (ty xty : TypeId) (s x : Value) (h : Heap) (k : Value → Heap → Option α) : Option α :=
  match P.underlying ty, P.underlying xty with
  | some (.slice e), some (.slice _) =>
    (match P.info? e, zeroOf P e, s with
    | some j, some z, .slice base len cap =>
      if 0 < j.size ∧ z.length = j.size ∧ 0 < j.bytes then
        (match srcCells j.size x h with
        | some (n, l) =>
          if n = 0 then (match base with | none => if len = 0 then k s h else none | some ⟨_, _, none⟩ => k s h | _ => none) else
          if (len + n) * j.bytes ≤ 140737488355328 ∧ l.all isCell = true then
            (match base with
            | none => if len = 0 ∧ cap = 0 then k (.slice (some ⟨h.length, 0, none⟩) n j.size) (h ++ [.own l]) else none
            | some ⟨b, o, none⟩ =>
              if len = 0 ∧ cap = 0 then k (.slice (some ⟨h.length, 0, none⟩) n j.size) (h ++ [.own l]) else
              if cap = j.size then
                (match h[b]? with
                | some (.own cs) =>
                  if o + len * j.size ≤ cs.length ∧ md.ro ≤ b then
                    k (.slice (some ⟨h.length, 0, none⟩) (len + n) j.size) (h.set b .dead ++ [.own ((cs.drop o).take (len * j.size) ++ l)])
                  else none
                | _ => none)
              else none
            | _ => none)
          else none
        | none => none)
      else none
    | _, _, _ => none)
  | _, _ => none

def aLen (ty : TypeId) (x : Value) (k : Value → Option α) : Option α :=
  match P.underlying ty, x with
  | some .string, .string s => k (.int .i64 s.size)
  | some (.array n _), _ => k (.int .i64 n)
  | some (.slice _), .slice _ n _ => k (.int .i64 n)
  | _, _ => none

def aMin2 : Value → Value → Option Value
  | .int k x, .int _ y => some (.int k (if y < x then y else x))
  | _, _ => none
def aMax2 : Value → Value → Option Value
  | .int k x, .int _ y => some (.int k (if y > x then y else x))
  | _, _ => none
def foldO (f : Value → Value → Option Value) : List Value → Value → Option Value
  | [], v => some v
  | x :: xs, v => match f v x with | some w => foldO f xs w | none => none

/-- What a map has for a key. -/
def mGet : List (MK × Value) → MK → Option Value
  | [], _ => none
  | (a, v) :: r, k => if a = k then some v else mGet r k
def mPut : List (MK × Value) → MK → Value → List (MK × Value)
  | [], k, v => [(k, v)]
  | (a, u) :: r, k, v => if a = k then (k, v) :: r else (a, u) :: mPut r k v
def mDel : List (MK × Value) → MK → List (MK × Value)
  | [], _ => []
  | (a, u) :: r, k => if a = k then r else (a, u) :: mDel r k
def isII : Option (List CK) → Bool
  | some [.i, .i] => true
  | _ => false
/-- A map's kind of keys, and the type of its elements. -/
def mapTy (ty : TypeId) : Option (KT × TypeId) :=
  match P.underlying ty with
  | some (.map key elem) => (match P.underlying key with
    | some (.int kd) => some (.one kd, elem)
    | some (.array 2 e) => (match P.underlying e, P.info? e with
      | some (.int kd), some j => if j.size = 1 ∧ P.eqGuardType P.depth key = false ∧ isII (kindsOf P 8 key) = true then some (.two kd, elem) else none
      | _, _ => none)
    | _ => none)
  | _ => none
/-- A key's value; a value's key. -/
def keyV : KT → MK → Value
  | .one kd, [x] => .int kd x
  | .two kd, [x, y] => .agg #[.int kd x, .int kd y]
  | _, _ => undef
def gkey : KT → MK → Bool
  | .one _, l => l.length == 1
  | .two _, l => l.length == 2
def keyOf : KT → Value → Option MK
  | .one kd, .int kd' n => if kd' = kd then some [n] else none
  | .two kd, .agg cs => (match cs.toList with
    | [.int k1 a, .int k2 b] => if k1 = kd ∧ k2 = kd then some [a, b] else none
    | _ => none)
  | _, _ => none
def zeroV (ty : TypeId) : Option Value :=
  match P.info? ty with
  | some i => (match i.zero with | some z => if closed z = true then some z else none | none => none)
  | none => none
def aMakeMap (ty : TypeId) (h : Heap) (k : Value → Heap → Option α) : Option α :=
  match mapTy P ty with
  | some (kd, _) => k (.map (some h.length)) (h ++ [.mp kd []])
  | none => none
def aLookup (ty : TypeId) (x i : Value) (ok : Bool) (h : Heap) (k : Value → Option α) : Option α :=
  match mapTy P ty, x with
  | some (kd, elem), .map (some b) =>
    (match keyOf kd i with
    | some n => (match h[b]? with
      | some (.mp kd'' es) => if kd'' = kd then
          (match mGet es n with
          | some v => k (bif ok then .tuple #[v, .bool true] else v)
          | none => (match zeroV P elem with | some z => k (bif ok then .tuple #[z, .bool false] else z) | none => none))
        else none
      | _ => none)
    | none => none)
  | _, _ => none
def aMapPut (md : Md) (ty : TypeId) (x i v : Value) (h : Heap) (k : Heap → Option α) : Option α :=
  match mapTy P ty, x with
  | some (kd, _), .map (some b) =>
    (match keyOf kd i with
    | some n => (match h[b]? with
      | some (.mp kd'' es) => if kd'' = kd ∧ md.ro ≤ b ∧ (md.lim ≤ b ∨ closed v = true) then k (h.set b (.mp kd (mPut es n v))) else none
      | _ => none)
    | none => none)
  | _, _ => none
def aMapDel (md : Md) (ty : TypeId) (x i : Value) (h : Heap) (k : Heap → Option α) : Option α :=
  match mapTy P ty, x with
  | some (kd, _), .map (some b) =>
    (match keyOf kd i with
    | some n => (match h[b]? with
      | some (.mp kd'' es) => if kd'' = kd ∧ md.ro ≤ b then k (h.set b (.mp kd (mDel es n))) else none
      | _ => none)
    | none => none)
  | _, _ => none

/-- Is it the length of a map? -/
def lenOfMap (tys : Array TypeId) : Bool :=
  match tys[0]? with
  | some ty => (match P.underlying ty with | some (.map ..) => true | _ => false)
  | none => false
def aLenM (x : Value) (h : Heap) (k : Value → Heap → Option α) : Option α :=
  match x with
  | .map (some b) => (match h[b]? with | some (.mp _ es) => k (.int .i64 (es.length : Int)) h | _ => none)
  | _ => none
/-- The tail of a slice set to zero. -/
def aClear (md : Md) (ty : TypeId) (x : Value) (h : Heap) (k : Value → Heap → Option α) : Option α :=
  match P.underlying ty, x with
  | some (.slice e), .slice none _ _ => k (.tuple #[]) h
  | some (.slice e), .slice (some ⟨b, i, none⟩) n s =>
    (match zeroOf P e with
    | some z =>
      if z.length = s ∧ 0 < s ∧ z.all scalar = true ∧ z.all isCell = true then
        (if n = 0 then k (.tuple #[]) h
        else match wrN md h b i (repL n z) with | some h' => k (.tuple #[]) h' | none => none)
      else none
    | none => none)
  | _, _ => none
def aBuiltin (md : Md) (b : Builtin) (tys : Array TypeId) (args : List Value) (h : Heap) (k : Value → Heap → Option α) : Option α :=
  match b, args with
  | .len, [x] => (bif lenOfMap P tys then aLenM x h k else (match tys[0]? with | some ty => aLen P ty x fun v => k v h | none => none))
  | .append, [s, x] => (match tys.toList with | [ty, xty] => aAppend P md ty xty s x h k | _ => none)
  | .min, x :: xs => (match foldO aMin2 xs x with | some v => k v h | none => none)
  | .delete, [x, i] => (match tys[0]? with | some ty => aMapDel P md ty x i h (fun h' => k (.tuple #[]) h') | none => none)
  | .max, x :: xs => (match foldO aMax2 xs x with | some v => k v h | none => none)
  | .clear, [x] => (match tys[0]? with | some ty => aClear P md ty x h k | none => none)
  | _, _ => none

/-- The function behind a method of an interface value, and its receiver: methods of the type itself. -/
def aMethod (ty : TypeId) (v : Value) (name : String) : Option (FuncId × Value) :=
  match P.info? ty with
  | some i =>
    (match i.methods.find? (·.name == name) with
    | some m => (match m.path.toList, m.func with
      | [], some (f, false) => (match P.underlying ty with | some (.pointer _) => none | some _ => some (f, v) | none => none)
      | [], some (f, true) => (match P.underlying ty with | some (.pointer _) => some (f, v) | _ => none)
      | _, _ => none)
    | none => none)
  | none => none

abbrev Rec := Md → FuncId → List Value → Heap → Option (Value × Heap)

def aCall (rc : Rec) (md : Md) (t : T) (c : Call) (h : Heap) (k : Value → Heap → Option α) : Option α :=
  match c.callee with
  | .builtin b => aBuiltin P md b c.argTypes (c.args.toList.map (ev t)) h k
  | .value f =>
    (match ev t f with
    | .func (.func g) fst cap => (match rc md g (fst.toList ++ c.args.toList.map (ev t) ++ cap.toList) h with | some (v, h') => k v h' | none => none)
    | _ => none)
  | .invoke r name =>
    (match ev t r with
    | .iface ty v =>
      (match aMethod P ty v name with
      | some (g, x) => (match rc md g (x :: c.args.toList.map (ev t)) h with | some (v, h') => k v h' | none => none)
      | none => none)
    | _ => none)

def okPtr : Value → Bool
  | .pointer (some _) => true
  | .func (.func _) _ _ => true
  | .iface _ _ => true
  | _ => false

/-- Is it nothing that a look at it would stop at? A method of a value behind an interface is none, if it has a body of its own. -/
def okNil (v : Value) : Bool :=
  match v with
  | .func (.method name) first _ => (match first.toList with | [.iface ty w] => (aMethod P ty w name).isSome | _ => false)
  | _ => okPtr v

def aOp0 (rc : Rec) (md : Md) (t : T) (o : Oper) (h : Heap) (k : Value → Heap → Option α) : Option α :=
  match o.op with
  | .move x => k (ev t x) h
  | .assign x => k (ev t x) h
  | .pick c a b => (match ev t c with | .bool q => k (cond q (ev t a) (ev t b)) h | _ => none)
  | .alloc ty => (match zeroOf P ty with | some z => if z.all scalar = true then k (.pointer (some ⟨h.length, 0, none⟩)) (h ++ [.own z]) else none | none => none)
  | .box _ x => k (.pointer (some ⟨h.length, 0, none⟩)) (h ++ [.own (ev t x).cells.toList])
  | .build ty ps => aBuild P ty (ps.toList.map fun p => (p.1, ev t p.2)) fun v => k v h
  | .buildSlice ty n ps => aBuildSlice P ty n (ps.toList.map fun p => (p.1, ev t p.2)) h k
  | .load ty x => aLoad P ty (ev t x) h fun v => k v h
  | .store ty x v => aStore P md ty (ev t x) (ev t v) h fun h' => k undef h'
  | .nilCheck x => bif okNil P (ev t x) then k (ev t x) h else none
  | .binOp op ty x y _ => aBin P op ty (ev t x) (ev t y) fun v => k v h
  | .unOp op _ x => aUn op (ev t x) fun v => k v h
  | .convert src dst x => bif convMem P src then aConvH P src dst (ev t x) h fun v => k v h else aConv P src dst (ev t x) fun v => k v h
  | .makeInterface ty x => (match P.underlying ty with | some (.interface _) => none | some _ => k (.iface ty (ev t x)) h | none => none)
  | .makeFunc fn fst cap => k (.func fn (fst.map (ev t)) (cap.map (ev t))) h
  | .makeSlice ty l c => aMakeSlice P ty (ev t l) (ev t c) h k
  | .slice ty x lo hi mx => aSlice P ty (ev t x) (lo.map (ev t)) (hi.map (ev t)) (mx.map (ev t)) fun v => k v h
  | .fieldAddr ty x f => aFieldAddr P ty (ev t x) f fun v => k v h
  | .field ty x f => aField P ty (ev t x) f fun v => k v h
  | .indexAddr ty x i => aIndexAddr P ty (ev t x) (ev t i) fun v => k v h
  | .index ty x i => aIndex P ty (ev t x) (ev t i) fun v => k v h
  | .typeAssert x _ ty ok => aAssert P (ev t x) ty ok fun v => k v h
  | .extract x i => (match ev t x with | .tuple vs => (match vs.toList[i]? with | some v => k v h | none => none) | _ => none)
  | .call c => aCall P rc md t c h k
  | .makeMap ty none => aMakeMap P ty h k
  | .lookup ty x i ok => aLookup P ty (ev t x) (ev t i) ok h fun v => k v h
  | .mapUpdate ty m i v => aMapPut P md ty (ev t m) (ev t i) (ev t v) h fun h' => k undef h'
  | .insert ty m i v => aMapPut P md ty (ev t m) (ev t i) (ev t v) h fun h' => k undef h'
  | .range ty x => aRange P ty (ev t x) h k
  | .next x isS => aNext md (ev t x) isS h k
  | _ => none

def cI (kd : IntKind) (v : Value) (k : Value → Option α) : Option α :=
  match v with
  | .int k' n => if k' = kd then k (.int kd n) else none
  | _ => none
def cB (v : Value) (k : Value → Option α) : Option α :=
  match v with
  | .bool b => k (.bool b)
  | _ => none
/-- A value of a type: of whole numbers and bools it is asked that they are. -/
def castV (ty : TypeId) (v : Value) (k : Value → Option α) : Option α :=
  match P.underlying ty with
  | some (.int kd) => cI kd v k
  | some .bool => cB v k
  | _ => k v
def castOf : Op → Bool
  | .load .. | .extract .. | .call _ | .pick .. | .field .. | .index .. | .lookup .. => true
  | _ => false
def aOp (rc : Rec) (md : Md) (t : T) (o : Oper) (h : Heap) (k : Value → Heap → Option α) : Option α :=
  aOp0 P rc md t o h fun v h' => bif castOf o.op then castV P o.type v fun v => k v h' else k v h'

def aYield (ops : Array Oper) (t : T) (j : Nat) : Option Bool :=
  match ops[j]? with
  | some o => (match o.dst with | some d => (match t d with | .bool b => some b | _ => none) | none => none)
  | none => none

def aWanted (ops : Array Oper) (t : T) (o : Oper) : Bool :=
  match o.guard with
  | none => true
  | some (j, want) => (match aYield ops t j with | some b => b == want | none => false)

def put (N : Nat) (dst : Option Tmp) (t : T) (v : Value) (k : T → Option α) : Option α :=
  match dst with
  | none => k t
  | some d => bif Nat.blt d N then k (upd t d v) else none

def aOps (rc : Rec) (md : Md) (N : Nat) (ops : Array Oper) (K : T → Heap → Option α) : List Nat → T → Heap → Option α
  | [], t, h => K t h
  | i :: rest, t, h =>
    match ops[i]? with
    | none => none
    | some o =>
      match o.guard with
      | none => aOp P rc md t o h fun v h' => put N o.dst t v fun t' => aOps rc md N ops K rest t' h'
      | some _ => (bif aWanted ops t o then aOp P rc md t o h fun v h' => some (v, h') else some (undef, h)).bind fun p => put N o.dst t p.1 fun t' => aOps rc md N ops K rest t' p.2

end

/-- What a constant operand may be; no variable of a package. -/
def okOperand : Operand → Bool
  | .const v => closed v
  | .global _ => false
  | _ => true

/-- Does an operation neither read nor write memory, and answer the same wherever it stands? -/
def stillOp (P : Program) (cfg : Cfg) : Op → Bool
  | .convert src _ _ => !convMem P src
  | .move _ | .assign _ | .pick .. | .build .. | .nilCheck _ | .binOp .. | .unOp .. | .makeInterface .. | .makeFunc .. | .slice .. | .fieldAddr .. | .field ..
  | .indexAddr .. | .index .. | .typeAssert .. | .extract .. => true
  | .call { callee := .builtin .len, argTypes := tys, .. } => !lenOfMap P tys
  | .call { callee := .builtin .min, .. } => true
  | .call { callee := .builtin .max, .. } => true
  | .call { callee := .value (.func g), .. } => Nat.beq (cfg g) 3
  | _ => false

/-- Does it read memory alone? -/
def readOp (cfg : Cfg) : Op → Bool
  | .load .. => true
  | .lookup .. => true
  | .call { callee := .value (.func g), .. } => Nat.ble 2 (cfg g)
  | _ => false

/-- Does it read memory, and hangs on it? -/
def isLoad (P : Program) (cfg : Cfg) (op : Op) : Bool := readOp cfg op && !stillOp P cfg op

def okPair (P : Program) (cfg : Cfg) (ops : Array Oper) (x y : Oper) : Bool :=
  (stillOp P cfg x.op || stillOp P cfg y.op || (readOp cfg x.op && readOp cfg y.op)) && Oper.apart ops x y

def okPairD (P : Program) (cfg : Cfg) (ops : Array Oper) (x y : Oper) : Bool :=
  (stillOp P cfg x.op || stillOp P cfg y.op || (readOp cfg x.op && readOp cfg y.op) || (isLoad P cfg x.op && !isLoad P cfg y.op) || (isLoad P cfg y.op && !isLoad P cfg x.op)) && Oper.apart ops x y
/-- Does it lay a new block, whose place alone hangs on when it is done? -/
def earlyOp (o : Oper) : Bool := o.guard.isNone && (match o.op with
  | .alloc _ => true
  | .makeSlice .. => true
  | .buildSlice .. => true
  | _ => false)
/-- May a region's operations be carried out in any order that its edges let? Of what lays a new block it is asked that all behind it come behind those that it isn't ordered with. -/
def commOk (P : Program) (cfg : Cfg) (ops : Array Oper) : Bool :=
  let b := Region.before ops
  ops.toList.zipIdx.all fun p => p.1.after.toList.all (fun e => !Region.binds .any e || Nat.blt e.on p.2) &&
    ops.toList.zipIdx.all fun q => !Nat.blt q.2 p.2 || (b.getD p.2 0).testBit q.2 || okPairD P cfg ops q.1 p.1 ||
      (earlyOp p.1 && Oper.apart ops q.1 p.1 && ops.toList.zipIdx.all fun k => !Nat.blt p.2 k.2 || !(b.getD k.2 0).testBit p.2 || (b.getD k.2 0).testBit q.2)

def okOps (cfg : Cfg) (ops : Array Oper) (draw : Bool) : Bool :=
  ops.toList.all fun o => o.op.operands.toList.all okOperand

def okCode (cfg : Cfg) : Code → Bool
  | .skip | .label _ | .exit _ | .ret => true
  | .region _ ops draw => okOps cfg ops draw
  | .seq a b => okCode cfg a && okCode cfg b
  | .cond c a b => okOperand c && okCode cfg a && okCode cfg b
  | .block _ b | .loop b | .scope b => okCode cfg b
  | _ => false

/-! ### A load beside an effect, in no order -/

def isEff (P : Program) (cfg : Cfg) (op : Op) : Bool := !stillOp P cfg op && !readOp cfg op
/-- What is read: an address, or by a call. -/
inductive Rd where
  | ld (ty : TypeId) (p : Value)
  | cl (f : FuncId) (args : List Value)
  | lk (ty : TypeId) (m i : Value) (ok : Bool)
def rdV (P : Program) (rc : Rec) (md : Md) : Rd → Heap → Option Value
  | .ld ty p, g => aLoad P ty p g some
  | .cl f args, g => match rc md f args g with | some (v, _) => some v | none => none
  | .lk ty m i ok, g => aLookup P ty m i ok g some

/-- What was done in a drawn region: a load (carried out or not) with its address and value; an effect with the heaps around it. -/
inductive Ent where
  | ld (l : Nat) (w : Bool) (q : Rd) (v : Value)
  | ef (e : Nat) (g g' : Heap)
def Ent.idx : Ent → Nat
  | .ld l .. => l
  | .ef e .. => e

def compat (P : Program) (rc : Rec) (md : Md) : Ent → Ent → Prop
  | .ld _ w q v, .ef _ g g' => w = true → rdV P rc md q g = some v ∧ rdV P rc md q g' = some v
  | .ef _ g g', .ld _ w q v => w = true → rdV P rc md q g = some v ∧ rdV P rc md q g' = some v
  | _, _ => True

/-- Two operations of a region, a load and an effect, that nothing orders. -/
def frOf (P : Program) (cfg : Cfg) (ops : Array Oper) (i j : Nat) : Bool :=
  match ops[i]?, ops[j]? with
  | some x, some y => ((isLoad P cfg x.op && isEff P cfg y.op) || (isEff P cfg x.op && isLoad P cfg y.op)) && !((Region.before ops).getD (max i j) 0).testBit (min i j)
  | _, _ => false
def hasFr (P : Program) (cfg : Cfg) (ops : Array Oper) : Bool :=
  let b := Region.before ops
  ops.toList.zipIdx.any fun p => ops.toList.zipIdx.any fun q => Nat.blt q.2 p.2 && ((isLoad P cfg p.1.op && isEff P cfg q.1.op) || (isEff P cfg p.1.op && isLoad P cfg q.1.op)) && !(b.getD p.2 0).testBit q.2

noncomputable def chk (P : Program) (rc : Rec) (md : Md) (fr : Nat → Nat → Bool) (x : Ent) {α : Type} : List Ent → Option α → Option α
  | [], k => k
  | y :: L, k => bif fr x.idx y.idx then (open Classical in if compat P rc md y x then chk P rc md fr x L k else none) else chk P rc md fr x L k

def entOf (P : Program) (cfg : Cfg) (o : Oper) (i : Nat) (t : T) (w : Bool) (v : Value) (h h' : Heap) : Option Ent :=
  match o.op with
  | .load ty x => some (.ld i w (.ld ty (ev t x)) v)
  | .lookup ty x y ok => some (.ld i w (.lk ty (ev t x) (ev t y) ok) v)
  | .call { callee := .value (.func g), args := args, .. } => bif Nat.beq (cfg g) 3 then none else bif Nat.ble 2 (cfg g) then some (.ld i w (.cl g (#[].toList ++ args.toList.map (ev t) ++ #[].toList)) v) else some (.ef i h h')
  | op => bif isEff P cfg op then some (.ef i h h') else none

noncomputable def logK (P : Program) (rc : Rec) (md : Md) (cfg : Cfg) (fr : Nat → Nat → Bool) (o : Oper) (i : Nat) (t : T) (w : Bool) (v : Value) (h h' : Heap) (L : List Ent) {α : Type} (k : List Ent → Option α) : Option α :=
  match entOf P cfg o i t w v h h' with
  | none => k L
  | some x => chk P rc md fr x L (k (x :: L))

/-- A drawn region with such pairs, as listed. -/
noncomputable def aOpsD (P : Program) (cfg : Cfg) (rc : Rec) (md : Md) (N : Nat) (ops : Array Oper) (fr : Nat → Nat → Bool) {α : Type} (K : T → Heap → Option α) : List Nat → T → Heap → List Ent → Option α
  | [], t, h, _ => K t h
  | i :: rest, t, h, L =>
    match ops[i]? with
    | none => none
    | some o =>
      match o.guard with
      | none => aOp P rc md t o h fun v h' => logK P rc md cfg fr o i t true v h h' L fun L' => put N o.dst t v fun t' => aOpsD P cfg rc md N ops fr K rest t' h' L'
      | some _ => (bif aWanted ops t o then aOp P rc md t o h fun v h' => some (v, h') else some (undef, h)).bind fun p =>
        logK P rc md cfg fr o i t (aWanted ops t o) p.1 h p.2 L fun L' => put N o.dst t p.1 fun t' => aOpsD P cfg rc md N ops fr K rest t' p.2 L'

/-- What all of some ways come to. -/
noncomputable def agree {α : Type} : List (Option α) → Option α
  | [] => none
  | x :: l => @ite _ (∀ y ∈ l, y = x) (Classical.propDecidable _) x none

/-- A region's operations in every order that its edges let: all of them must come to the same. -/
noncomputable def aOpsAny (P : Program) (rc : Rec) (md : Md) (N : Nat) (ops : Array Oper) {α : Type} (K : T → Heap → Option α) : Nat → Array Bool → T → Heap → Option α
  | 0, listed, t, h => bif (Region.ready .any ops listed).isEmpty then K t h else none
  | fuel + 1, listed, t, h => match Region.ready .any ops listed with
    | [] => K t h
    | l => agree (l.map fun i => match ops[i]? with
      | none => none
      | some o => (bif aWanted ops t o then aOp P rc md t o h fun v h' => some (v, h') else some (undef, h)).bind fun p => put N o.dst t p.1 fun t' => aOpsAny P rc md N ops K fuel (listed.setIfInBounds i true) t' p.2)

/-- One operation waits for one more. -/
def addE (ops : Array Oper) (k i : Nat) : Array Oper := match ops[k]? with
  | some o => ops.setIfInBounds k { o with after := o.after.push ⟨i, .data⟩ }
  | none => ops
def notSel : Op → Bool
  | .select _ _ => false
  | _ => true
/-- May it wait? -/
def mayWait (P : Program) (ops : Array Oper) (k i : Nat) : Bool :=
  let b := Region.before ops
  Nat.blt i k && (match ops[k]? with
  | some o => o.guard.isNone && (match o.op with
    | .makeInterface ty _ => (match P.underlying ty with | some (.interface _) => false | some _ => true | none => false)
    | _ => false) &&
    ops.toList.zipIdx.all fun q => notSel q.1.op && q.1.after.toList.all (fun e => !Region.binds .any e || (Nat.blt e.on q.2 && (!Nat.beq e.on k || (b.getD q.2 0).testBit i))) &&
      ((!(b.getD q.2 0).testBit k || (b.getD q.2 0).testBit i) && (Nat.beq q.2 k || (b.getD q.2 0).testBit k || (b.getD k 0).testBit q.2 || Oper.apart ops q.1 o))
  | none => false)

def relaxL (P : Program) : List (Nat × Nat) → Array Oper → Array Oper
  | [], ops => ops
  | (k, i) :: l, ops => relaxL P l (bif mayWait P ops k i then addE ops k i else ops)
def isMk : Option Oper → Bool
  | some o => (match o.op with | .makeInterface _ _ => true | _ => false)
  | none => false
/-- Which may wait for which. -/
def relaxP (ops : Array Oper) : List (Nat × Nat) :=
  let b := Region.before ops
  (List.range ops.size).flatMap fun k => bif isMk ops[k]? then ((List.range k).filter fun i => (match ops[i]? with | some o => earlyOp o | none => false) && !(b.getD k 0).testBit i).map fun i => (k, i) else []
def relax (P : Program) (ops : Array Oper) : Array Oper := relaxL P (relaxP ops) ops
/-- The operations as they are taken: where no one order is enough, what makes an interface waits. -/
def regOf (P : Program) (cfg : Cfg) (ops : Array Oper) (draw : Bool) : Array Oper :=
  bif draw then (bif commOk P cfg ops then ops else bif commOk P cfg (relax P ops) then relax P ops else ops) else ops

/-- A region's operations. -/
noncomputable def regOps (P : Program) (cfg : Cfg) (rc : Rec) (md : Md) (N : Nat) (ops : Array Oper) (draw : Bool) {α : Type} (K : T → Heap → Option α) (t : T) (h : Heap) : Option α :=
  bif draw then
    bif commOk P cfg ops then
      bif hasFr P cfg ops then aOpsD P cfg rc md N ops (frOf P cfg ops) K (List.range ops.size) t h [] else aOps P rc md N ops K (List.range ops.size) t h
    else aOpsAny P rc md N ops K ops.size (Array.replicate ops.size false) t h
  else aOps P rc md N ops K (List.range ops.size) t h

/-- The limit of a chain of answers. -/
noncomputable def sup {α : Type} (g : Nat → Option α) : Option α :=
  open Classical in if h : ∃ a n, g n = some a then some (Classical.choose h) else none

def loopN {σ α : Type} (f : σ → Option (σ ⊕ α)) : Nat → σ → Option α
  | 0, _ => none
  | n + 1, s => match f s with
    | some (.inl s') => loopN f n s'
    | some (.inr a) => some a
    | none => none

noncomputable def loopF {σ α : Type} (f : σ → Option (σ ⊕ α)) (s : σ) : Option α := sup fun n => loopN f n s

section
variable (P : Program)

/-- How a piece of code ends one round of a loop. -/
def roundK (e : Exit) (t : T) (h : Heap) : Option ((T × Heap) ⊕ (Exit × T × Heap)) :=
  match e with
  | .normal => some (.inl (t, h))
  | e => some (.inr (e, t, h))

noncomputable def exec (cfg : Cfg) (rc : Rec) (md : Md) (N : Nat) : Code → {α : Type} → (Exit → T → Heap → Option α) → T → Heap → Option α
  | .skip, _, K, t, h => K .normal t h
  | .label _, _, K, t, h => K .normal t h
  | .region _ ops draw, _, K, t, h => regOps P cfg rc md N (regOf P cfg ops draw) draw (K .normal) t h
  | .seq a b, _, K, t, h => exec cfg rc md N a (fun e t h => match e with | .normal => exec cfg rc md N b K t h | e => K e t h) t h
  | .cond c x y, _, K, t, h => match ev t c with
    | .bool b => bif b then exec cfg rc md N x K t h else exec cfg rc md N y K t h
    | _ => none
  | .block id body, _, K, t, h => exec cfg rc md N body (fun e t h => match e with
    | .exit j => bif Nat.beq j id then K .normal t h else K (.exit j) t h
    | e => K e t h) t h
  | .loop body, _, K, t, h =>
    match loopF (fun s : T × Heap => exec cfg rc md N body roundK s.1 s.2) (t, h) with
    | some (e, t, h) => K e t h
    | none => none
  | .scope body, _, K, t, h => exec cfg rc md N body K t h
  | .exit id, _, K, t, h => K (.exit id) t h
  | .ret, _, K, t, h => K .ret t h
  | _, _, _, _, _ => none

def resVals (t : T) (h : Heap) : List ResultVar → (List Value → Option (Value × Heap)) → Option (Value × Heap)
  | [], k => k []
  | .tmp i :: rs, k => resVals t h rs fun l => k (t i :: l)
  | .cell a ty :: rs, k => aLoad P ty (t a) h fun v => resVals t h rs fun l => k (v :: l)

def mdOf (cfg : Cfg) (f : FuncId) (md : Md) (n : Nat) : Md :=
  match cfg f with
  | 0 => md
  | 1 => ⟨md.ro, n⟩
  | _ => ⟨n, n⟩

def finishCall (cfg : Cfg) (f : FuncId) (h : Heap) (v : Value) (h' : Heap) : Option (Value × Heap) :=
  match cfg f with
  | 0 => some (v, h')
  | 1 => bif below h.length v then some (v, h'.take h.length) else none
  | _ => bif below h.length v then some (v, h) else none

def resOf : List Value → Value
  | [x] => x
  | l => .tuple l.toArray

def args0 (args : List Value) : T := fun i => args.getD i undef

/-- What a call answers at its end. -/
def retK (cfg : Cfg) (f : FuncId) (rs : List ResultVar) (h : Heap) (e : Exit) (t : T) (h' : Heap) : Option (Value × Heap) :=
  match e with
  | .normal => resVals P t h' rs fun l => finishCall cfg f h (resOf l) h'
  | .ret => resVals P t h' rs fun l => finishCall cfg f h (resOf l) h'
  | _ => none

noncomputable def callStep0 (cfg : Cfg) (rc : Rec) : Rec := fun md f args h =>
  match P.funcs[f]? with
  | some fn =>
    match fn.body with
    | some c =>
      bif okCode cfg c && !(fn.name == "runtime.NumGoroutine") then
        exec P cfg rc (mdOf cfg f md h.length) (args.length + (fn.ntmps - args.length)) c
          (retK P cfg f fn.results.toList h) (args0 args) h
      else none
    | none => none
  | none => none

/-- A value without addresses: a scalar, a struct of them, a row of these. -/
def plain1 : Value → Bool
  | .agg cs => cs.toList.all scalar
  | v => scalar v
def plain2 : Value → Bool
  | .tuple cs => cs.toList.all plain1
  | v => plain1 v

/-- A call that needs nothing of what there is: it is carried out as if there were nothing. -/
def alone (h : Heap) : Option (Value × Heap) → Option (Value × Heap)
  | some (v, _) => bif plain2 v then some (v, h) else none
  | none => none

noncomputable def callStep (cfg : Cfg) (rc : Rec) : Rec := fun md f args h =>
  bif Nat.beq (cfg f) 3 then
    (bif args.all plain1 then alone h (callStep0 P cfg rc ⟨0, 0⟩ f args []) else none)
  else bif Nat.beq (cfg f) 4 then (match cfg.x f args h with | some v => bif plain2 v then some (v, h) else none | none => none)
  else callStep0 P cfg rc md f args h

noncomputable def callN (cfg : Cfg) : Nat → Rec
  | 0 => fun _ _ _ _ => none
  | n + 1 => callStep P cfg (callN cfg n)

noncomputable def call (cfg : Cfg) : Rec := fun md f args h => sup fun n => callN P cfg n md f args h

end
end Go.Det
