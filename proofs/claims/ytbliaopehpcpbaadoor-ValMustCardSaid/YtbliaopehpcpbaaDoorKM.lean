/- Values: what must be a number or a text, without its panic (the walks). -/
import Derived.Test.YtbliaopehpcpbaaDoorProg
import Derived.Tactics
import Derived.Tactics2
import Derived.Defers
import Derived.Recover
import Derived.Laws.Pointers
import Derived.WalkKit
set_option linter.unusedVariables false
set_option linter.unusedSimpArgs false
namespace Go.Proofs.Kmust
open Go Go.Proofs
theorem under15 : Tryd.prog.underlying 15 = some (.pointer 71) := by kernel_rfl
theorem elem15 (w : World) : (elemOf 15).run Tryd.prog w = .ok 71 w := by
  unfold elemOf
  simp [Sem.run_bind, run_underlying under15, Result.andThen_ok]
theorem catch_panicking (p q : Addr) (x : Int) (y : Bool) (u : TypeId) (pv : Value) (older : List PanicEntry) (w : World) (hc : w.cell? p = some (.int .i64 x)) (hz : w.frozen? p = false) (hd : (w.setCell p (.int .i64 0)).cell? q = some (.bool y)) (hf : (w.setCell p (.int .i64 0)).frozen? q = false) :
    CallsD Tryd.prog 25 #[.pointer (some p), .pointer (some q)] (.panicking ({ v := .iface u pv, recovered := false } :: older)) w fun e u' w' =>
      e = .returned (.tuple #[]) ∧ u' = .panicking ({ v := .iface u pv, recovered := true } :: older) ∧ w' = (w.setCell p (.int .i64 0)).setCell q (.bool false) := by
  refine callsD_of_wpS Tryd.func25 rfl fun c₀ cs hu => ?_
  apply wpS_seq
  apply wpS_region
  simp [wpOpsS, go_sem, recoverD, hu, Tryd.ntmps25, Exit.thenS]
  refine wpS_cond (t := true) (by simp [Act.eval, Array.replicate]) ?_
  simp only [if_true]
  apply wpS_region
  simp [wpOpsS, go_sem, hc, hz, hd, hf, bodyPostS, results, Tryd.results25]
theorem catch_idle (p q : Addr) (w : World) :
    CallsD Tryd.prog 25 #[.pointer (some p), .pointer (some q)] .returning w fun e u' w' => e = .returned (.tuple #[]) ∧ u' = .returning ∧ w' = w := by
  refine callsD_of_wpS Tryd.func25 rfl fun c₀ cs hu => ?_
  apply wpS_seq
  apply wpS_region
  simp [wpOpsS, go_sem, recoverD, hu, Tryd.ntmps25, Exit.thenS]
  refine wpS_cond (t := false) (by simp [Act.eval, Array.replicate]) ?_
  simp only [Bool.false_eq_true, if_false]
  refine wpS_of_wp (wp_skip ?_)
  cases c₀
  simp_all [bodyPostS, results, Tryd.results25]
theorem under3 : Tryd.prog.underlying 3 = some (.int .i64) := by kernel_rfl
theorem ta_yes (n : Int) (w : World) : (Instr.typeAssert (.iface 3 (.int .i64 n)) 20 3 false).run Tryd.prog w = .ok (.int .i64 n) w := by
  simp [Instr.typeAssert, Sem.run_bind, run_underlying under3, Result.andThen_ok]
theorem ta_no (x : Value) (hx : x = .nilIface ∨ ∃ t v, x = .iface t v ∧ t ≠ 3) (w : World) : ∃ u pv C T, (Instr.typeAssert x 20 3 false).run Tryd.prog w = .halt (.panic (.iface u pv)) (w.alloc (.cells C T)) := by
  rcases hx with rfl | ⟨t, v, rfl, ht⟩
  · simp [Instr.typeAssert, Sem.run_bind, run_underlying under3, Result.andThen_ok, runtimePanic, go_sem]
    rw [elem15]
    exact ⟨_, _, _, _, rfl⟩
  · simp [Instr.typeAssert, Sem.run_bind, run_underlying under3, Result.andThen_ok, runtimePanic, go_sem, ht]
    rw [elem15]
    exact ⟨_, _, _, _, rfl⟩
theorem num_yes (n : Int) (w : World) : Calls Tryd.prog 17 #[.iface 3 (.int .i64 n)] w fun e w' => e = .returned (.tuple #[.int .i64 n, .bool true]) ∧ RowKit.Below w.heap.size w w' := by
  have hmf : ∀ (fn : Fn) (first cap : Array Value) (w : World), (Instr.makeFunc fn first cap).run Tryd.prog w = .ok (.func fn first cap) w := fun _ _ _ _ => rfl
  have hta := ta_yes n
  go_enter_defers Tryd.func17, Tryd.ntmps17
  go_wp2
  refine leaves_cons (f := 25) (args := #[.pointer (some ⟨w.heap.size, 0, none⟩), .pointer (some ⟨w.heap.size + 1, 0, none⟩)]) (by simp) (by simp [go_sem]) ?_
  refine (catch_idle ⟨w.heap.size, 0, none⟩ ⟨w.heap.size + 1, 0, none⟩ _).mono ?_
  rintro e u' w'' ⟨rfl, rfl, rfl⟩
  simp [Leaves, settle, results, Tryd.results17, go_sem]
  exact ((RowKit.Below.refl _ _).alloc (Nat.le_refl _) _).alloc (by simp) _
theorem num_no (x : Value) (hx : x = .nilIface ∨ ∃ t v, x = .iface t v ∧ t ≠ 3) (w : World) : Calls Tryd.prog 17 #[x] w fun e w' => e = .returned (.tuple #[.int .i64 0, .bool false]) ∧ RowKit.Below w.heap.size w w' := by
  have hmf : ∀ (fn : Fn) (first cap : Array Value) (w : World), (Instr.makeFunc fn first cap).run Tryd.prog w = .ok (.func fn first cap) w := fun _ _ _ _ => rfl
  obtain ⟨u, pv, C, T, hta⟩ := ta_no x hx ((w.alloc (.cells #[.int .i64 0] 3)).alloc (.cells #[.bool false] 4))
  go_enter_defers Tryd.func17, Tryd.ntmps17
  go_wp2
  refine ⟨rfl, ?_⟩
  refine leaves_cons (f := 25) (args := #[.pointer (some ⟨w.heap.size, 0, none⟩), .pointer (some ⟨w.heap.size + 1, 0, none⟩)]) (by simp) (by simp [go_sem]) ?_
  refine (catch_panicking ⟨w.heap.size, 0, none⟩ ⟨w.heap.size + 1, 0, none⟩ 0 false u pv [] _ ?_ ?_ ?_ ?_).mono ?_
  · simp [go_sem]
  · simp [go_sem]
  · simp [go_sem]
  · simp [go_sem]
  rintro e u' w'' ⟨rfl, rfl, rfl⟩
  simp [Leaves, settle, results, Tryd.results17, go_sem]
  exact (((RowKit.Below.refl _ _).alloc (Nat.le_refl _) _).alloc (by simp) _).alloc (by simp; omega) _
theorem scatch_panicking (p q : Addr) (x : ByteArray) (y : Bool) (u : TypeId) (pv : Value) (older : List PanicEntry) (w : World) (hc : w.cell? p = some (.string x)) (hz : w.frozen? p = false) (hd : (w.setCell p (.string ⟨#[]⟩)).cell? q = some (.bool y)) (hf : (w.setCell p (.string ⟨#[]⟩)).frozen? q = false) :
    CallsD Tryd.prog 26 #[.pointer (some p), .pointer (some q)] (.panicking ({ v := .iface u pv, recovered := false } :: older)) w fun e u' w' =>
      e = .returned (.tuple #[]) ∧ u' = .panicking ({ v := .iface u pv, recovered := true } :: older) ∧ w' = (w.setCell p (.string ⟨#[]⟩)).setCell q (.bool false) := by
  refine callsD_of_wpS Tryd.func26 rfl fun c₀ cs hu => ?_
  apply wpS_seq
  apply wpS_region
  simp [wpOpsS, go_sem, recoverD, hu, Tryd.ntmps26, Exit.thenS]
  refine wpS_cond (t := true) (by simp [Act.eval, Array.replicate]) ?_
  simp only [if_true]
  apply wpS_region
  simp [wpOpsS, go_sem, hc, hz, hd, hf, bodyPostS, results, Tryd.results26]
theorem scatch_idle (p q : Addr) (w : World) :
    CallsD Tryd.prog 26 #[.pointer (some p), .pointer (some q)] .returning w fun e u' w' => e = .returned (.tuple #[]) ∧ u' = .returning ∧ w' = w := by
  refine callsD_of_wpS Tryd.func26 rfl fun c₀ cs hu => ?_
  apply wpS_seq
  apply wpS_region
  simp [wpOpsS, go_sem, recoverD, hu, Tryd.ntmps26, Exit.thenS]
  refine wpS_cond (t := false) (by simp [Act.eval, Array.replicate]) ?_
  simp only [Bool.false_eq_true, if_false]
  refine wpS_of_wp (wp_skip ?_)
  cases c₀
  simp_all [bodyPostS, results, Tryd.results26]
theorem under9 : Tryd.prog.underlying 9 = some .string := by kernel_rfl
theorem sta_yes (n : ByteArray) (w : World) : (Instr.typeAssert (.iface 9 (.string n)) 20 9 false).run Tryd.prog w = .ok (.string n) w := by
  simp [Instr.typeAssert, Sem.run_bind, run_underlying under9, Result.andThen_ok]
theorem sta_no (x : Value) (hx : x = .nilIface ∨ ∃ t v, x = .iface t v ∧ t ≠ 9) (w : World) : ∃ u pv C T, (Instr.typeAssert x 20 9 false).run Tryd.prog w = .halt (.panic (.iface u pv)) (w.alloc (.cells C T)) := by
  rcases hx with rfl | ⟨t, v, rfl, ht⟩
  · simp [Instr.typeAssert, Sem.run_bind, run_underlying under9, Result.andThen_ok, runtimePanic, go_sem]
    rw [elem15]
    exact ⟨_, _, _, _, rfl⟩
  · simp [Instr.typeAssert, Sem.run_bind, run_underlying under9, Result.andThen_ok, runtimePanic, go_sem, ht]
    rw [elem15]
    exact ⟨_, _, _, _, rfl⟩
theorem str_yes (n : ByteArray) (w : World) : Calls Tryd.prog 18 #[.iface 9 (.string n)] w fun e w' => e = .returned (.tuple #[.string n, .bool true]) ∧ RowKit.Below w.heap.size w w' := by
  have hmf : ∀ (fn : Fn) (first cap : Array Value) (w : World), (Instr.makeFunc fn first cap).run Tryd.prog w = .ok (.func fn first cap) w := fun _ _ _ _ => rfl
  have hta := sta_yes n
  go_enter_defers Tryd.func18, Tryd.ntmps18
  go_wp2
  refine leaves_cons (f := 26) (args := #[.pointer (some ⟨w.heap.size, 0, none⟩), .pointer (some ⟨w.heap.size + 1, 0, none⟩)]) (by simp) (by simp [go_sem]) ?_
  refine (scatch_idle ⟨w.heap.size, 0, none⟩ ⟨w.heap.size + 1, 0, none⟩ _).mono ?_
  rintro e u' w'' ⟨rfl, rfl, rfl⟩
  simp [Leaves, settle, results, Tryd.results18, go_sem]
  exact ((RowKit.Below.refl _ _).alloc (Nat.le_refl _) _).alloc (by simp) _
theorem str_no (x : Value) (hx : x = .nilIface ∨ ∃ t v, x = .iface t v ∧ t ≠ 9) (w : World) : Calls Tryd.prog 18 #[x] w fun e w' => e = .returned (.tuple #[.string ⟨#[]⟩, .bool false]) ∧ RowKit.Below w.heap.size w w' := by
  have hmf : ∀ (fn : Fn) (first cap : Array Value) (w : World), (Instr.makeFunc fn first cap).run Tryd.prog w = .ok (.func fn first cap) w := fun _ _ _ _ => rfl
  obtain ⟨u, pv, C, T, hta⟩ := sta_no x hx ((w.alloc (.cells #[.string ⟨#[]⟩] 9)).alloc (.cells #[.bool false] 4))
  go_enter_defers Tryd.func18, Tryd.ntmps18
  go_wp2
  refine ⟨rfl, ?_⟩
  refine leaves_cons (f := 26) (args := #[.pointer (some ⟨w.heap.size, 0, none⟩), .pointer (some ⟨w.heap.size + 1, 0, none⟩)]) (by simp) (by simp [go_sem]) ?_
  refine (scatch_panicking ⟨w.heap.size, 0, none⟩ ⟨w.heap.size + 1, 0, none⟩ ⟨#[]⟩ false u pv [] _ ?_ ?_ ?_ ?_).mono ?_
  · simp [go_sem]
  · simp [go_sem]
  · simp [go_sem]
  · simp [go_sem]
  rintro e u' w'' ⟨rfl, rfl, rfl⟩
  simp [Leaves, settle, results, Tryd.results18, go_sem]
  exact (((RowKit.Below.refl _ _).alloc (Nat.le_refl _) _).alloc (by simp) _).alloc (by simp; omega) _
end Go.Proofs.Kmust
