/- The document's sum of bytes (spinetref36.On): its end, and the call as a whole. -/
import Derived.Test.YtcadfopmadjanaaCrcRef2
namespace Go.Proofs.Ytcadfopmadjanaa.CrcRef
open Go.Abs Go.RowKit
set_option linter.unusedVariables false
set_option linter.unusedSimpArgs false

noncomputable abbrev fr2 (l : List (Nat × Value)) : List Value := frame 84 ([(5, ptr 1)] ++ l)
section
variable (off n cap : Nat) (q : Option AObj) (B : Nat → Bool) (x y z : Int)
theorem tailInit : runF Try.prog cl 1000 (itemsC 1 tailC) (keepL 84 [5, 12]) [] (fv off n cap [(8, .int .i64 x)]) (hq q B) = some (fr2 [(12, .int .i64 0)], hq q B, true) := by kernel_rfl
theorem tailInit2 : runF Try.prog cl 1000 (itemsC 1 (Code.part [1, 0] tailC)) (keepL 84 [5, 12, 13]) [] (fr2 [(12, .int .i64 0)]) (hq q B) = some (fr2 [(12, .int .i64 0), (13, .int .i64 0)], hq q B, true) := by kernel_rfl
theorem tailOut : runM Try.prog cl 1000 (Code.part [0] tailB) (keepL 84 [5, 12]) [some false] (fr2 [(12, .int .i64 y), (13, .int .i64 x)]) (hq q B) =
    some (.exit 8, fr2 [(12, .int .i64 y)], hq q B, [!decide (x < 16)].all id) := by kernel_rfl
theorem tailIn : runM Try.prog cl 1000 (Code.part [0] tailB) (keepL 84 [5, 12, 13]) [some true] (fr2 [(12, .int .i64 y), (13, .int .i64 x)]) (hq q B) =
    some (.normal, fr2 [(12, .int .i64 y), (13, .int .i64 x)], hq q B, [decide (x < 16)].all id) := by kernel_rfl
noncomputable def bitAt (B : Nat → Bool) (x : Int) : Value := (getL (cells16 B) (0 + x.toNat * 1)).getD undef
theorem tailT : runM Try.prog cl 1000 (Code.part [1] tailB) (keepL 84 [5, 12, 13]) [some true] (fr2 [(12, .int .i64 y), (13, .int .i64 x)]) (hq q B) =
    some (.normal, fr2 [(12, .int .i64 (IntKind.i64.wrap (IntKind.i64.wrap (2 * y) + 1))), (13, .int .i64 (IntKind.i64.wrap (x + 1)))], hq q B,
      [boolV (bitAt B x), Nat.blt (0 + x.toNat * 1) 16 && isBoolB (bitAt B x), decide (0 ≤ x) && Nat.blt x.toNat 16].all id) := by kernel_rfl
theorem tailF : runM Try.prog cl 1000 (Code.part [1] tailB) (keepL 84 [5, 12, 13]) [some false] (fr2 [(12, .int .i64 y), (13, .int .i64 x)]) (hq q B) =
    some (.normal, fr2 [(12, .int .i64 (IntKind.i64.wrap (2 * y))), (13, .int .i64 (IntKind.i64.wrap (x + 1)))], hq q B,
      [!boolV (bitAt B x), Nat.blt (0 + x.toNat * 1) 16 && isBoolB (bitAt B x), decide (0 ≤ x) && Nat.blt x.toNat 16].all id) := by kernel_rfl
theorem tailEnd : runM Try.prog cl 1000 (Code.part [1, 1] tailC) (keepL 84 [4]) [] (fr2 [(12, .int .i64 y)]) (hq q B) =
    some (.ret, frame 84 [(4, .int .u16 (IntKind.u16.wrap y))], hq q B, true) := by kernel_rfl
end

/-- The number of sixteen bits, the highest first. -/
def numB (B : Nat → Bool) : Nat → Int
  | 0 => 0
  | k + 1 => 2 * numB B k + (bif B k then 1 else 0)
theorem numB_bound (B : Nat → Bool) : ∀ k, 0 ≤ numB B k ∧ numB B k < 2 ^ k
  | 0 => by simp [numB]
  | k + 1 => by
    have := numB_bound B k
    simp only [numB]
    rw [Int.pow_succ]
    cases B k <;> simp <;> omega
theorem bitAt_eq (B : Nat → Bool) (k : Nat) (h : k < 16) : bitAt B (k : Int) = .bool (B k) := by
  unfold bitAt
  rw [show 0 + (k : Int).toNat * 1 = k by simp]
  rcases k with _ | _ | _ | _ | _ | _ | _ | _ | _ | _ | _ | _ | _ | _ | _ | _ | k <;> first | rfl | omega

/-- The end: the number of the bits. -/
theorem tail (off n cap : Nat) (q : Option AObj) (B : Nat → Bool) (x0 : Int) :
    Shows Try.prog tailC (fv off n cap [(8, .int .i64 x0)]) (hq q B) (fun o t s => o = .ret ∧ t = frame 84 [(4, .int .u16 (numB B 16))] ∧ s = hq q B) := by
  refine Shows.first good 1 (tailInit off n cap q B x0) rfl ?_
  show Shows Try.prog (.seq (Code.part [1, 0] tailC) (Code.part [1, 1] tailC)) _ _ _
  refine Shows.seq (R1 := fun o t s => o = .normal ∧ t = fr2 [(12, .int .i64 (numB B 16))] ∧ s = hq q B) ?_ ?_ (fun o t s h hne => absurd h.1 hne)
  · refine Shows.first good 1 (tailInit2 q B) rfl ?_
    show Shows Try.prog (.block 8 (.loop tailB)) _ _ _
    refine Shows.block (R1 := fun o t s => o = .exit 8 ∧ t = fr2 [(12, .int .i64 (numB B 16))] ∧ s = hq q B) ?_ (fun t s h => ⟨rfl, h.2⟩) (fun o t s h hne => absurd h.1 hne)
    refine Shows.loop (fun m τ σ => ∃ (k : Nat) (x y : Int), m = 16 - k ∧ x = (k : Int) ∧ k ≤ 16 ∧ y = numB B k ∧ τ = fr2 [(12, .int .i64 y), (13, .int .i64 x)] ∧ σ = hq q B) ?_ (m := 16) ⟨0, 0, 0, rfl, rfl, by omega, rfl, rfl, rfl⟩
    rintro m τ σ ⟨k, x, y, rfl, rfl, hk, rfl, rfl, rfl⟩
    show Shows Try.prog (.seq (Code.part [0] tailB) (Code.part [1] tailB)) _ _ _
    by_cases hlt : k < 16
    · refine Shows.seq (Shows.run good (tailIn q B k (numB B k)) (by simp; omega)) ?_ (fun o t s h hne => absurd h.1 hne)
      rintro t s ⟨_, rfl, rfl⟩
      have hb := bitAt_eq B k hlt
      have hbd := numB_bound B k
      have hp16 : (2 : Int) ^ k ≤ 2 ^ 16 := by
        have : (2 : Nat) ^ k ≤ 2 ^ 16 := Nat.pow_le_pow_right (by decide) (by omega)
        exact_mod_cast this
      have hp16 : (2 : Int) ^ k ≤ 65536 := hp16
      cases hB : B k with
      | true =>
        refine (Shows.run good (tailT q B k (numB B k)) (by rw [hb, hB]; simp [boolV, isBoolB, Nat.blt_eq, hlt])).mono ?_
        rintro o t s ⟨rfl, rfl, rfl⟩
        refine .inl ⟨rfl, 16 - (k + 1), by omega, k + 1, _, _, rfl, ?_, by omega, ?_, rfl, rfl⟩
        · rw [wrap_i64 _ (by omega) (by omega)]; simp
        · rw [wrap_i64 (2 * _) (by omega) (by omega), wrap_i64 _ (by omega) (by omega)]; simp [numB, hB]
      | false =>
        refine (Shows.run good (tailF q B k (numB B k)) (by rw [hb, hB]; simp [boolV, isBoolB, Nat.blt_eq, hlt])).mono ?_
        rintro o t s ⟨rfl, rfl, rfl⟩
        refine .inl ⟨rfl, 16 - (k + 1), by omega, k + 1, _, _, rfl, ?_, by omega, ?_, rfl, rfl⟩
        · rw [wrap_i64 _ (by omega) (by omega)]; simp
        · rw [wrap_i64 (2 * _) (by omega) (by omega)]; simp [numB, hB]
    · refine Shows.seq (Shows.run good (tailOut q B k (numB B k)) (by simp; omega)) (fun t s h => by simp at h) ?_
      rintro o t s ⟨rfl, rfl, rfl⟩ _
      have : k = 16 := by omega
      subst this
      exact .inr ⟨by simp, rfl, rfl, rfl⟩
  · rintro t s ⟨_, rfl, rfl⟩
    refine (Shows.run good (tailEnd q B (numB B 16)) rfl).mono ?_
    rintro o t s ⟨rfl, rfl, rfl⟩
    have := numB_bound B 16
    refine ⟨rfl, ?_, rfl⟩
    rw [show IntKind.u16.wrap (numB B 16) = numB B 16 by simp [IntKind.wrap, IntKind.bits, IntKind.signed]; omega]

/-- What 'On' answers. -/
def refOn (sum : Int) (zs : List Int) : Int := numB (onBits (bits0 sum) zs) 16

theorem on_shows (off e b : Nat) (zs : List Int) (hz : zs.length < 1000000) (sum : Int) :
    Shows Try.prog body ([.int .u16 sum, rowV 0 off zs.length 1] ++ List.replicate (84 - 2) undef) (argHeap [⟨rowCells off (zs.map (Value.int .u8)), e, b⟩])
      (fun o t s => (o = .normal ∨ o = .ret) ∧ ∃ l, resultsL Try.prog t s Try.f15.results.toList = some l ∧ oneOf l = .int .u16 (refOn sum zs)) := by
  refine Shows.first good 4 (start off zs.length (UNK + 1) (some (.cells (rowCells off (zs.map (Value.int .u8))) e)) sum) rfl ?_
  show Shows Try.prog (.seq mainC tailC) _ _ _
  refine Shows.seq (outer off e zs hz (bits0 sum)) ?_ (fun o t s h hne => absurd h.1 hne)
  rintro t s ⟨_, ⟨x, rfl⟩, rfl⟩
  refine (tail off zs.length (UNK + 1) _ _ x).mono ?_
  rintro o t s ⟨rfl, rfl, rfl⟩
  exact ⟨.inr rfl, [.int .u16 (refOn sum zs)], rfl, rfl⟩
theorem on_shows0 (sum : Int) :
    Shows Try.prog body ([.int .u16 sum, emptyV] ++ List.replicate (84 - 2) undef) (heapOf 1 [none])
      (fun o t s => (o = .normal ∨ o = .ret) ∧ ∃ l, resultsL Try.prog t s Try.f15.results.toList = some l ∧ oneOf l = .int .u16 (refOn sum [])) := by
  refine Shows.first good 4 (start 0 0 UNK3 none sum) rfl ?_
  show Shows Try.prog (.seq mainC tailC) _ _ _
  refine Shows.seq (outer0 0 UNK3 none (bits0 sum)) ?_ (fun o t s h hne => absurd h.1 hne)
  rintro t s ⟨_, ⟨x, rfl⟩, rfl⟩
  refine (tail 0 0 UNK3 none _ x).mono ?_
  rintro o t s ⟨rfl, rfl, rfl⟩
  exact ⟨.inr rfl, [.int .u16 (refOn sum [])], rfl, rfl⟩
end Go.Proofs.Ytcadfopmadjanaa.CrcRef
