/- The law of the sums of bytes: its run, given that both sums are alike. -/
import Derived.Test.YtcadfopmadjanaaCrcOn2
import Derived.Test.YtcadfopmadjanaaA23
namespace Go.Proofs.Ytcadfopmadjanaa.CrcSums
open Go.Abs Go.RowKit CrcRef CrcOn
set_option linter.unusedVariables false
set_option linter.unusedSimpArgs false

/-- A word and a row of bytes. -/
def wordRow (g : Int → List Int → Int) : List RArg → Option (Value × Bool)
  | [.plain (.int .u16 s), .row n cs] => some (.int .u16 (g s (cs.map intV)), cs.all (isIntB .u8) && Nat.blt n 1000000)
  | _ => none
theorem ints_of_all : ∀ {cs : List Value}, cs.all (isIntB .u8) = true → cs = (cs.map intV).map (Value.int .u8)
  | [], _ => rfl
  | v :: cs, h => by
    simp only [List.all_cons, Bool.and_eq_true] at h
    rw [List.map_cons, List.map_cons, ← ints_of_all h.2]
    cases v <;> simp [isIntB] at h
    rename_i k n
    obtain ⟨rfl, _⟩ := h
    rfl
theorem wordRow_ok {f : FuncId} {g : Int → List Int → Int} (h : ∀ (s : Int) (zs : List Int), zs.length < 1000000 → ∀ (w : World) (v : Value), IsRowV w 1 zs.length (zs.map (Value.int .u8)) v →
    Calls Try.prog f #[.int .u16 s, v] w fun e w' => e = .returned (.int .u16 (g s zs)) ∧ Below w.heap.size w w') : RowOK Try.prog f [none, some 1] (wordRow g) := by
  intro qs v hq w args' hr
  unfold wordRow at hq
  split at hq
  · rename_i s n cs
    simp only [Option.some.injEq, Prod.mk.injEq, Bool.and_eq_true, Nat.blt_eq] at hq
    obtain ⟨rfl, hall, hn⟩ := hq
    obtain ⟨a0, a1, ha, e0, hrow⟩ : ∃ a0 a1, args'.toList = [a0, a1] ∧ a0 = .int .u16 s ∧ IsRowV w 1 n cs a1 := by
      revert hr
      generalize args'.toList = l
      intro hr
      match l, hr with
      | [a0, a1], hr => exact ⟨a0, a1, rfl, hr.1, hr.2.1⟩
    have hargs : args' = #[.int .u16 s, a1] := by
      apply Array.ext'; rw [ha, e0]
    subst hargs
    have hlen : cs.length = n := by have := hrow.1; omega
    have hcs := ints_of_all hall
    refine Calls.mono (h s (cs.map intV) (by rw [List.length_map, hlen]; exact hn) w a1 (by rw [List.length_map, hlen, ← hcs]; exact hrow)) ?_
    rintro e w' ⟨rfl, hb⟩
    exact ⟨_, rfl, fun r => .atom _ rfl, hb⟩
  · simp at hq

theorem alive_runs : out? (absCall Try.prog noOra 20 17 [] h0) = some (.bool true) := by kernel_rfl
theorem alive_calls (w : World) : Calls Try.prog 17 #[] w fun e w' => e = .returned (.bool true) ∧ Below w.heap.size w w' := plain_calls' (noOra_ok _) noNum mixed alive_runs rfl rfl w
def aliveOra : List Value → Option Value
  | [] => some (.bool true)
  | _ => none
theorem aliveOra_ok : PlainOK Try.prog 17 aliveOra := by
  intro args v h w
  unfold aliveOra at h
  split at h
  · obtain rfl := Option.some.inj h
    refine Calls.mono (alive_calls w) ?_
    rintro e w' ⟨rfl, hb⟩
    exact ⟨_, rfl, fun r => .atom _ rfl, hb⟩
  · simp at h

def oraL : List (FuncId × OraFn) := [(16, rowOra [none, some 1] (wordRow crcOn)), (15, rowOra [none, some 1] (wordRow refOn)), (17, plainOra aliveOra)]
theorem oraL_ok : OraOK Try.prog (oras oraL) := oras_ok _ (by
  intro q hq
  simp only [oraL, List.mem_cons, List.mem_nil_iff, or_false] at hq
  rcases hq with rfl | rfl | rfl
  · exact rowOra_ok (wordRow_ok on_calls)
  · exact rowOra_ok (wordRow_ok refOn_calls)
  · exact plainOra_ok aliveOra_ok)
end Go.Proofs.Ytcadfopmadjanaa.CrcSums
