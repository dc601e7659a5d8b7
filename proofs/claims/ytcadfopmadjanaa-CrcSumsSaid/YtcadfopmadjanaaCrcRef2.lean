/- The document's sum of bytes (spinetref36.On): its loops, shown to end in the plain function of bits. -/
import Derived.Test.YtcadfopmadjanaaCrcRef1
namespace Go.Proofs.Ytcadfopmadjanaa.CrcRef
open Go.Abs Go.RowKit
set_option linter.unusedVariables false
set_option linter.unusedSimpArgs false

theorem wrap_i64 (x : Int) (h0 : -9223372036854775808 ≤ x) (h1 : x < 9223372036854775808) : IntKind.i64.wrap x = x := by
  simp [IntKind.wrap, IntKind.bits, IntKind.signed]
  omega
theorem cellAt_eq (off : Nat) (zs : List Int) (k : Nat) (h : k < zs.length) : cellAt off (zs.map (Value.int .u8)) (k : Int) = .int .u8 zs[k] := by
  unfold cellAt
  rw [show off + (k : Int).toNat * 1 = off + k by simp, rowCells_get, List.getElem?_map, List.getElem?_eq_getElem h]
  rfl

/-- One byte's eight bits. -/
theorem inner (off e : Nat) (zs : List Int) (k : Nat) (hk : k < zs.length) (B0 : Nat → Bool) :
    Shows Try.prog inC (fr off zs.length [(8, .int .i64 (k : Int))]) (hp off (zs.map (Value.int .u8)) e B0) (fun o t s => o = .normal ∧ t = fr off zs.length [(8, .int .i64 (k : Int))] ∧ s = hp off (zs.map (Value.int .u8)) e (fin zs[k] 8 B0)) := by
  refine Shows.first good 1 (inInit off zs.length _ e B0 k) rfl ?_
  show Shows Try.prog (.block 4 (.loop inB)) _ _ _
  refine Shows.block (R1 := fun o t s => o = .exit 4 ∧ t = fr off zs.length [(8, .int .i64 (k : Int))] ∧ s = hp off (zs.map (Value.int .u8)) e (fin zs[k] 8 B0)) ?_ (fun t s h => ⟨rfl, h.2⟩) (fun o t s h hne => absurd h.1 hne)
  refine Shows.loop (fun m τ σ => ∃ (y : Int) (B : Nat → Bool), y = (m : Int) - 1 ∧ m ≤ 8 ∧ fin zs[k] m B = fin zs[k] 8 B0 ∧ τ = fr off zs.length [(8, .int .i64 (k : Int)), (9, .int .i64 y)] ∧ σ = hp off (zs.map (Value.int .u8)) e B) ?_ (m := 8) ⟨7, B0, by decide, by decide, rfl, rfl, rfl⟩
  rintro m τ σ ⟨y, B, hy, hm, hB, rfl, rfl⟩
  show Shows Try.prog (.seq (Code.part [0] inB) (Code.part [1] inB)) _ _ _
  cases m with
  | zero =>
    refine Shows.seq (Shows.run good (inOut off zs.length _ e B k y) (by simp; omega)) (fun t s h => by simp at h) ?_
    rintro o t s ⟨rfl, rfl, rfl⟩ _
    exact .inr ⟨by simp, rfl, rfl, by rw [← hB]; rfl⟩
  | succ m =>
    refine Shows.seq (Shows.run good (inIn off zs.length _ e B k y) (by simp; omega)) ?_ (fun o t s h hne => absurd h.1 hne)
    rintro t s ⟨_, rfl, rfl⟩
    show Shows Try.prog (.seq (.block 5 bitC) (Code.part [1, 1] inB)) _ _ _
    have hcell := cellAt_eq off zs k hk
    have hym : y = (m : Int) := by omega
    refine Shows.seq (R1 := fun o t s => o = .normal ∧ t = fr off zs.length [(8, .int .i64 (k : Int)), (9, .int .i64 y)] ∧ s = hp off (zs.map (Value.int .u8)) e (bitStep zs[k] m B)) ?_ ?_ (fun o t s h hne => absurd h.1 hne)
    · refine Shows.block (R1 := fun o t s => o = .normal ∧ t = fr off zs.length [(8, .int .i64 (k : Int)), (9, .int .i64 y)] ∧ s = hp off (zs.map (Value.int .u8)) e (bitStep zs[k] m B)) ?_ (fun t s h => by simp at h) (fun o t s h _ => h)
      refine Shows.first good 1 (bitA off zs.length _ e B k y) ?_ ?_
      · rw [hcell]
        simp [isIntB, rowCells_length, Nat.blt_eq]
        omega
      · rw [hcell]
        have hbit : (!(B 0 == (((intV (Value.int IntKind.u8 zs[k])).fdiv (2 ^ min y.toNat 8)).tmod 2 == 1))) = !(B 0 == bitOf zs[k] m) := by
          rw [hym, show min (m : Int).toNat 8 = m by simp; omega]; rfl
        rw [hbit]
        unfold bitStep
        generalize (!(B 0 == bitOf zs[k] m)) = t
        cases t with
        | true => exact Shows.run good (bitT off zs.length _ e B k y) rfl
        | false => exact Shows.run good (bitF off zs.length _ e B k y) rfl
    · rintro t s ⟨_, rfl, rfl⟩
      refine (Shows.run good (inNext off zs.length _ e (bitStep zs[k] m B) k y) rfl).mono ?_
      rintro o t s ⟨rfl, rfl, rfl⟩
      exact .inl ⟨rfl, m, by omega, _, _, by rw [wrap_i64 _ (by omega) (by omega)]; omega, by omega, hB, rfl, rfl⟩

/-- All bytes. -/
theorem outer (off e : Nat) (zs : List Int) (hz : zs.length < 1000000) (B0 : Nat → Bool) :
    Shows Try.prog mainC (fr off zs.length []) (hp off (zs.map (Value.int .u8)) e B0) (fun o t s => o = .normal ∧ (∃ x : Int, t = fr off zs.length [(8, .int .i64 x)]) ∧ s = hp off (zs.map (Value.int .u8)) e (onBits B0 zs)) := by
  refine Shows.first good 1 (mainInit off zs.length (UNK + 1) _ B0) rfl ?_
  show Shows Try.prog (.block 2 (.loop loopB)) _ _ _
  refine Shows.block (R1 := fun o t s => o = .exit 2 ∧ (∃ x : Int, t = fr off zs.length [(8, .int .i64 x)]) ∧ s = hp off (zs.map (Value.int .u8)) e (onBits B0 zs)) ?_ (fun t s h => ⟨rfl, h.2⟩) (fun o t s h hne => absurd h.1 hne)
  refine Shows.loop (fun m τ σ => ∃ (k : Nat) (x : Int) (B : Nat → Bool), m = zs.length - k ∧ x = (k : Int) ∧ k ≤ zs.length ∧ onBits B (zs.drop k) = onBits B0 zs ∧ τ = fr off zs.length [(8, .int .i64 x)] ∧ σ = hp off (zs.map (Value.int .u8)) e B) ?_ (m := zs.length) ⟨0, 0, B0, by omega, rfl, by omega, by simp, rfl, rfl⟩
  rintro m τ σ ⟨k, x, B, rfl, rfl, hk, hB, rfl, rfl⟩
  show Shows Try.prog (.seq (Code.part [0] loopB) (Code.part [1] loopB)) _ _ _
  by_cases hlt : k < zs.length
  · refine Shows.seq (Shows.run good (loopIn off zs.length _ e B k) (by simp; omega)) ?_ (fun o t s h hne => absurd h.1 hne)
    rintro t s ⟨_, rfl, rfl⟩
    show Shows Try.prog (.seq (.block 3 inC) (Code.part [1, 1] loopB)) _ _ _
    refine Shows.seq (R1 := fun o t s => o = .normal ∧ t = fr off zs.length [(8, .int .i64 (k : Int))] ∧ s = hp off (zs.map (Value.int .u8)) e (fin zs[k] 8 B)) ?_ ?_ (fun o t s h hne => absurd h.1 hne)
    · exact Shows.block (inner off e zs k hlt B) (fun t s h => by simp at h) (fun o t s h _ => h)
    · rintro t s ⟨_, rfl, rfl⟩
      refine (Shows.run good (loopNext off zs.length _ e (fin zs[k] 8 B) k) rfl).mono ?_
      rintro o t s ⟨rfl, rfl, rfl⟩
      refine .inl ⟨rfl, zs.length - (k + 1), by omega, k + 1, _, _, rfl, ?_, by omega, ?_, rfl, rfl⟩
      · rw [wrap_i64 _ (by omega) (by omega)]; simp
      · rw [← hB, List.drop_eq_getElem_cons hlt]; rfl
  · refine Shows.seq (Shows.run good (loopOut off zs.length (UNK + 1) _ B k) (by simp; omega)) (fun t s h => by simp at h) ?_
    rintro o t s ⟨rfl, rfl, rfl⟩ _
    have : k = zs.length := by omega
    subst this
    rw [List.drop_length] at hB
    exact .inr ⟨by simp, rfl, ⟨_, rfl⟩, by rw [← hB]; rfl⟩

/-- No byte. -/
theorem outer0 (off cap : Nat) (q : Option AObj) (B0 : Nat → Bool) :
    Shows Try.prog mainC (fv off 0 cap []) (hq q B0) (fun o t s => o = .normal ∧ (∃ x : Int, t = fv off 0 cap [(8, .int .i64 x)]) ∧ s = hq q B0) := by
  refine Shows.first good 1 (mainInit off 0 cap q B0) rfl ?_
  show Shows Try.prog (.block 2 (.loop loopB)) _ _ _
  refine Shows.block (R1 := fun o t s => o = .exit 2 ∧ (∃ x : Int, t = fv off 0 cap [(8, .int .i64 x)]) ∧ s = hq q B0) ?_ (fun t s h => ⟨rfl, h.2⟩) (fun o t s h hne => absurd h.1 hne)
  refine Shows.loop (fun m τ σ => τ = fv off 0 cap [(8, .int .i64 0)] ∧ σ = hq q B0) ?_ (m := 0) ⟨rfl, rfl⟩
  rintro m τ σ ⟨rfl, rfl⟩
  show Shows Try.prog (.seq (Code.part [0] loopB) (Code.part [1] loopB)) _ _ _
  refine Shows.seq (Shows.run good (loopOut off 0 cap q B0 0) (by simp)) (fun t s h => by simp at h) ?_
  rintro o t s ⟨rfl, rfl, rfl⟩ _
  exact .inr ⟨by simp, rfl, ⟨_, rfl⟩, rfl⟩
end Go.Proofs.Ytcadfopmadjanaa.CrcRef
