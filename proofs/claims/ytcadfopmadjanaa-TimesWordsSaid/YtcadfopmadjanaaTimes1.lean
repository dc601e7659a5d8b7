/- The product of two words: what 'times.Mul' and 'times.Wide' answer. -/
import Derived.Test.YtcadfopmadjanaaPTimesWordsx1
import Derived.Test.YtcadfopmadjanaaA18
namespace Go.Proofs.Ytcadfopmadjanaa.Times
open Go.Abs Go.RowKit PTimesWords
set_option linter.unusedVariables false
set_option linter.unusedSimpArgs false

theorem noNum : NoNum Try.prog := noNum_of (by kernel_rfl)
theorem mixed : Try.prog.follows .mixedOrders = true := by kernel_rfl

theorem with_one (a : Int) (b : Bool) (m : Int) : ∃ r, flags_With.f 10 a b [m] = some r := by
  cases b <;> simp [flags_With.f, flags_With.l0, wrap64]

theorem mul_calls (a b c : Int) (w : World) : Calls Try.prog 59 #[.int .u8 a, .int .u8 b, .int .u8 c] w fun e w' =>
    ∃ r2, e = .returned (.tuple #[.int .u16 (IntKind.u16.wrap ((IntKind.u16.wrap a) * (IntKind.u16.wrap b))), .int .u8 r2]) ∧ Below w.heap.size w w' := by
  obtain ⟨r, hr⟩ := with_one c ((IntKind.u16.wrap ((IntKind.u16.wrap a) * (IntKind.u16.wrap b))) == 0) 4
  obtain ⟨s, hs⟩ := with_one r ((Go.bits .and .u16 (IntKind.u16.wrap ((IntKind.u16.wrap a) * (IntKind.u16.wrap b))) 128) != 0) 1
  refine Calls.mono (times_Mul.calls 10 a b c (IntKind.u16.wrap ((IntKind.u16.wrap a) * (IntKind.u16.wrap b))) s w (by simp [times_Mul.f, hr, hs])) ?_
  rintro e w' ⟨rfl, hb⟩
  exact ⟨s, rfl, hb⟩

def mulOra : List Value → Option Value
  | [.int .u8 a, .int .u8 b, .int .u8 c] => some (.tuple #[.int .u16 (IntKind.u16.wrap ((IntKind.u16.wrap a) * (IntKind.u16.wrap b))), poison])
  | _ => none

theorem mulOra_ok : PlainOK Try.prog 59 mulOra := by
  intro args v h w
  unfold mulOra at h
  split at h
  · rename_i a b c
    obtain rfl := Option.some.inj h
    refine Calls.mono (mul_calls a b c w) ?_
    rintro e w' ⟨r2, rfl, hb⟩
    refine ⟨_, rfl, fun r => ?_, hb⟩
    exact VRel.tuple' (.cons (.atom _ rfl) (.cons (.poison _) (.nil r)))
  · simp at h

theorem ora_ok : OraOK Try.prog (oraList [(59, mulOra)]) := oraList_ok _ (by
  intro q hq
  simp only [List.mem_singleton] at hq
  subst hq
  exact mulOra_ok)

def low (x : Int) : Int := IntKind.u8.wrap x
def high (x : Int) : Int := IntKind.u8.wrap (x.fdiv (2 ^ 8))
def part (a b : Int) (m : Nat) : Int := IntKind.u32.wrap (IntKind.u32.wrap (IntKind.u16.wrap ((IntKind.u16.wrap a) * (IntKind.u16.wrap b))) * 2 ^ m)
def wide (x y : Int) : Int :=
  IntKind.u32.wrap (IntKind.u32.wrap (IntKind.u32.wrap (IntKind.u32.wrap (0 + part (low x) (low y) 0) + part (low x) (high y) 8) + part (high x) (low y) 8) + part (high x) (high y) 16)
theorem wide_runs (x y : Int) : fst? (absCall Try.prog (oraList [(59, mulOra)]) 20 18 [.int .u16 x, .int .u16 y] h0) = some (.int .u32 (wide x y)) := by kernel_rfl
theorem wide_calls (x y : Int) (w : World) : Calls Try.prog 18 #[.int .u16 x, .int .u16 y] w fun e w' => e = .returned (.int .u32 (wide x y)) ∧ Below w.heap.size w w' :=
  plain_calls' ora_ok noNum mixed (wide_runs x y) rfl rfl w
theorem alive_runs : fst? (absCall Try.prog noOra 20 19 [] h0) = some (.bool true) := by kernel_rfl
theorem alive_calls (w : World) : Calls Try.prog 19 #[] w fun e w' => e = .returned (.bool true) ∧ Below w.heap.size w w' :=
  plain_calls' (noOra_ok _) noNum mixed alive_runs rfl rfl w
end Go.Proofs.Ytcadfopmadjanaa.Times
