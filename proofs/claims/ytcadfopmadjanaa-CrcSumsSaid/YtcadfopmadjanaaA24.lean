/- A24: a whole call run with hints. General over the program. -/
import Derived.Test.YtcadfopmadjanaaA23
namespace Go.Abs
open Go.RowKit
set_option linter.unusedVariables false

/-- A call's answer, and whether all that was noted is so. -/
def runC (P : Program) (ora : Oracle) (n : Nat) (f : FuncId) (hs : List (Option Bool)) (args : List Value) (σ : AHeap) : Option (Value × Bool) :=
  match absCall P ora n f args { σ with hints := hs, obl := [] } with
  | some (v, s) => some (v, s.obl.all id)
  | none => none
theorem runC_calls {P : Program} {ora : Oracle} (ho : OraOK P ora) (hN : NoNum P) (hm : P.follows .mixedOrders = true) {n : Nat} {f : FuncId} {hs : List (Option Bool)} {args : List Value} {σ : AHeap} {v : Value} {B : Bool}
    (h : runC P ora n f hs args σ = some (v, B)) (hB : B = true) (hv : noPtr 8 v = true) {r : Ren} {w : World} {args' : Array Value} (hw : WRel r σ w) (hargs : LRel r args args'.toList) (hd : ∀ n b, r.rel n b → σ.get n = none ∨ n < σ.lim) :
    Calls P f args' w fun e w' => e = .returned v ∧ Below w.heap.size w w' := by
  unfold runC at h
  split at h
  · rename_i u s hc
    simp only [Option.some.injEq, Prod.mk.injEq] at h
    obtain ⟨rfl, rfl⟩ := h
    have e : EqH σ { σ with hints := hs, obl := [] } := ⟨rfl, rfl, rfl, rfl, rfl⟩
    refine Calls.mono (abs_ok ho hN hm n f args _ u s hc hB r w args' (e.wrel hw) hargs) ?_
    rintro e' w' ⟨v', r', rfl, hs, hr⟩
    exact ⟨by rw [VRel.eq_of_noPtr 8 _ _ hr hv], hs.below hd⟩
  · simp at h
end Go.Abs
