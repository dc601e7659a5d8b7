/- The sum of bytes of package crc: what 'step', 'On' and 'Of' answer. -/
import Derived.Test.YtcadfopmadjanaaCrcRef3
import Derived.Test.YtcadfopmadjanaaA22
import Derived.Laws.BitsLemmas
namespace Go.Proofs.Ytcadfopmadjanaa.CrcOn
open Go.Abs Go.RowKit CrcRef
set_option linter.unusedVariables false
set_option linter.unusedSimpArgs false

/-! ### step -/
noncomputable abbrev sbody : Code := bodyOf Try.f56
noncomputable abbrev sloopC : Code := Code.part [0] (restC 2 sbody)
noncomputable abbrev sloopB : Code := Code.part [0, 1, 0, 0] (restC 2 sbody)
def xorA (s b : Int) : Int := bits .xor .u16 s (IntKind.u16.wrap (IntKind.u16.wrap b * 2 ^ 8))
def up (s : Int) : Int := IntKind.u16.wrap (s * 2 ^ 1)
def top (s : Int) : Bool := bits .and .u16 s 32768 != 0
def crcBit (s : Int) : Int := bif top s then bits .xor .u16 (up s) 4129 else up s
def crcBits : Nat → Int → Int
  | 0, s => s
  | k + 1, s => crcBits k (crcBit s)
def crcStep (s b : Int) : Int := crcBits 8 (xorA s b)
section
variable (s b x : Int)
theorem sstart : runF Try.prog cl 1000 (itemsC 2 sbody) (keepL 22 [0]) [] ([.int .u16 s, .int .u8 b] ++ List.replicate (22 - 2) undef) h0 = some (frame 22 [(0, .int .u16 (xorA s b))], h0, true) := by kernel_rfl
theorem sinit : runF Try.prog cl 1000 (itemsC 1 sloopC) (keepL 22 [0, 10]) [] (frame 22 [(0, .int .u16 s)]) h0 = some (frame 22 [(0, .int .u16 s), (10, .int .i64 0)], h0, true) := by kernel_rfl
theorem sout : runM Try.prog cl 1000 sloopB (keepL 22 [0]) [some false] (frame 22 [(0, .int .u16 s), (10, .int .i64 x)]) h0 = some (.exit 0, frame 22 [(0, .int .u16 s)], h0, [!decide (x < 8)].all id) := by kernel_rfl
theorem sone : runM Try.prog cl 1000 sloopB (keepL 22 [0, 10]) [some true, some true] (frame 22 [(0, .int .u16 s), (10, .int .i64 x)]) h0 =
    some (.normal, frame 22 [(0, .int .u16 (bits .xor .u16 (up s) 4129)), (10, .int .i64 (IntKind.i64.wrap (x + 1)))], h0, [top s, decide (x < 8)].all id) := by kernel_rfl
theorem szero : runM Try.prog cl 1000 sloopB (keepL 22 [0, 10]) [some true, some false] (frame 22 [(0, .int .u16 s), (10, .int .i64 x)]) h0 =
    some (.normal, frame 22 [(0, .int .u16 (up s)), (10, .int .i64 (IntKind.i64.wrap (x + 1)))], h0, [!top s, decide (x < 8)].all id) := by kernel_rfl
theorem send : runM Try.prog cl 1000 (restC 3 sbody) (keepL 22 [4]) [] (frame 22 [(0, .int .u16 s)]) h0 = some (.ret, frame 22 [(4, .int .u16 s)], h0, true) := by kernel_rfl
end

theorem step_shows (s b : Int) : Shows Try.prog sbody ([.int .u16 s, .int .u8 b] ++ List.replicate (22 - 2) undef) h0 (EndsIn Try.prog Try.f56 (.int .u16 (crcStep s b))) := by
  refine Shows.first good 2 (sstart s b) rfl ?_
  show Shows Try.prog (.seq sloopC (restC 3 sbody)) _ _ _
  refine Shows.seq (R1 := fun o t σ => o = .normal ∧ t = frame 22 [(0, .int .u16 (crcStep s b))] ∧ σ = h0) ?_ ?_ (fun o t s h hne => absurd h.1 hne)
  · refine Shows.first good 1 (sinit _) rfl ?_
    show Shows Try.prog (.block 0 (.loop sloopB)) _ _ _
    refine Shows.block (R1 := fun o t σ => o = .exit 0 ∧ t = frame 22 [(0, .int .u16 (crcStep s b))] ∧ σ = h0) ?_ (fun t s h => ⟨rfl, h.2⟩) (fun o t s h hne => absurd h.1 hne)
    refine Shows.loop (fun m τ σ => ∃ (x s' : Int), m ≤ 8 ∧ x = 8 - (m : Int) ∧ crcBits m s' = crcStep s b ∧ τ = frame 22 [(0, .int .u16 s'), (10, .int .i64 x)] ∧ σ = h0) ?_ (m := 8) ⟨0, xorA s b, by omega, rfl, rfl, rfl, rfl⟩
    rintro m τ σ ⟨x, s', hm, hx, hs, rfl, rfl⟩
    cases m with
    | zero =>
      refine (Shows.run good (sout s' x) (by simp; omega)).mono ?_
      rintro o t σ ⟨rfl, rfl, rfl⟩
      exact .inr ⟨by simp, rfl, by rw [← hs]; rfl, rfl⟩
    | succ m =>
      cases ht : top s' with
      | true =>
        refine (Shows.run good (sone s' x) (by simp [ht]; omega)).mono ?_
        rintro o t σ ⟨rfl, rfl, rfl⟩
        exact .inl ⟨rfl, m, by omega, _, _, by omega, by rw [wrap_i64 _ (by omega) (by omega)]; omega, by rw [← hs]; simp [crcBits, crcBit, ht], rfl, rfl⟩
      | false =>
        refine (Shows.run good (szero s' x) (by simp [ht]; omega)).mono ?_
        rintro o t σ ⟨rfl, rfl, rfl⟩
        exact .inl ⟨rfl, m, by omega, _, _, by omega, by rw [wrap_i64 _ (by omega) (by omega)]; omega, by rw [← hs]; simp [crcBits, crcBit, ht], rfl, rfl⟩
  · rintro t σ ⟨_, rfl, rfl⟩
    refine (Shows.run good (send _) rfl).mono ?_
    rintro o t σ ⟨rfl, rfl, rfl⟩
    exact ⟨.inr rfl, [_], rfl, rfl⟩

theorem args2 (r : Ren) (a b : Value) (ha : noPtr 8 a = true) (hb : noPtr 8 b = true) : LRel r [a, b] #[a, b].toList :=
  .cons (VRel.refl_of_noPtr r 8 a ha) (.cons (VRel.refl_of_noPtr r 8 b hb) (.nil r))
theorem step_calls (s b : Int) (w : World) : Calls Try.prog 56 #[.int .u16 s, .int .u8 b] w fun e w' => e = .returned (.int .u16 (crcStep s b)) ∧ Below w.heap.size w w' :=
  Shows.plain (P := Try.prog) (fn := Try.f56) (c := sbody) Try.func56 rfl rfl (step_shows s b) (rel0 w) (args2 ren0 _ _ rfl rfl) (fun _ _ h => h.elim)

def stepOra : List Value → Option Value
  | [.int .u16 s, .int .u8 b] => some (.int .u16 (crcStep s b))
  | _ => none
theorem stepOra_ok : PlainOK Try.prog 56 stepOra := by
  intro args v h w
  unfold stepOra at h
  split at h
  · rename_i s b
    obtain rfl := Option.some.inj h
    refine Calls.mono (step_calls s b w) ?_
    rintro e w' ⟨rfl, hb⟩
    exact ⟨_, rfl, fun r => .atom _ rfl, hb⟩
  · simp at h
noncomputable abbrev cl2 : Caller := absCall Try.prog (oraList [(56, stepOra)]) 5
theorem good2 : Good Try.prog cl2 := Good.of (oraList_ok _ (by
  intro q hq
  simp only [List.mem_singleton] at hq
  subst hq
  exact stepOra_ok)) noNum mixed 5
end Go.Proofs.Ytcadfopmadjanaa.CrcOn
