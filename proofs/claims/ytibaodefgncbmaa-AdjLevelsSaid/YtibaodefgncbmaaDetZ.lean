/- Words of guarded steps: a chain of conditions is one condition. -/
import Derived.Test.YtibaodefgncbmaaDetU
set_option autoImplicit false
set_option linter.unusedVariables false
set_option linter.unusedSimpArgs false
namespace Go.Det
section
variable {α β γ : Type}
theorem bind_cond {c : Bool} {x y : β} {k : β → Option γ} : (bif c then some x else some y).bind k = k (bif c then x else y) := by cases c <;> exact nrf rfl
theorem snd_cond {c : Bool} {x y : α} {h : β} : (bif c then (x, h) else (y, h)).2 = h := by cases c <;> exact nrf rfl
theorem fst_cond {c : Bool} {x y : α} {h h' : β} : (bif c then (x, h) else (y, h')).1 = bif c then x else y := by cases c <;> exact nrf rfl
theorem cBn_cond {c a b : Bool} {k : Bool → Option γ} : cBn (bif c then .bool a else .bool b) k = k (bif c then a else b) := by cases c <;> exact nrf rfl
theorem cIn_cond {c : Bool} {kd : IntKind} {a b : Int} {k : Int → Option γ} : cIn kd (bif c then .int kd a else .int kd b) k = k (bif c then a else b) := by cases c <;> exact cIn_p _ _ _
theorem cond_ctx {c c' : Bool} {x x' y y' : β} (h1 : c = c') (h2 : c' = true → x = x') (h3 : c' = false → y = y') : (bif c then x else y) = bif c' then x' else y' := by
  subst h1
  cases c
  · exact h3 rfl
  · exact h2 rfl
theorem wantV_cond {c a b : Bool} {w : Bool} : wantV (bif c then .bool a else .bool b) w = wantV (.bool (bif c then a else b)) w := by cases c <;> exact nrf rfl
theorem clV_1 {rc : Rec} {md : Md} {g : FuncId} {x : Value} {args : List Value} {h : Heap} {k : Value → Heap → Option γ} : clV rc md (.func (.func g) #[] #[x]) args h k = cl (rc md g (args ++ [x]) h) k := nrf rfl
theorem clV_0 {rc : Rec} {md : Md} {g : FuncId} {args : List Value} {h : Heap} {k : Value → Heap → Option γ} : clV rc md (.func (.func g) #[] #[]) args h k = cl (rc md g (args ++ []) h) k := nrf rfl
theorem clV_2 {rc : Rec} {md : Md} {g : FuncId} {x y : Value} {args : List Value} {h : Heap} {k : Value → Heap → Option γ} : clV rc md (.func (.func g) #[] #[x, y]) args h k = cl (rc md g (args ++ [x, y]) h) k := nrf rfl
theorem cond_t {c : Bool} {x y : β} (h : c = true) : (bif c then x else y) = x := by rw [h]; rfl
theorem cond_f {c : Bool} {x y : β} (h : c = false) : (bif c then x else y) = y := by rw [h]; rfl
end
end Go.Det
