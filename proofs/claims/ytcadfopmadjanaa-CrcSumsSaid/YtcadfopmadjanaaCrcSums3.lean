/- The law of the sums of bytes, for any bytes and any sum. -/
import Derived.Test.YtcadfopmadjanaaCrcSums2
import Derived.Test.YtcadfopmadjanaaCrcPure
namespace Go.Proofs.Ytcadfopmadjanaa.CrcSums
open Go.Abs Go.RowKit CrcRef CrcOn
set_option linter.unusedVariables false
set_option linter.unusedSimpArgs false

theorem ora_ok : OraOK Try.prog (OO crcOn refOn) := oras_ok _ (by
  intro q hq
  simp only [List.mem_cons, List.mem_nil_iff, or_false] at hq
  rcases hq with rfl | rfl | rfl
  · exact rowOra_ok (wordRow_ok on_calls)
  · exact rowOra_ok (wordRow_ok refOn_calls)
  · exact plainOra_ok aliveOra_ok)

/-- Whole numbers as the caller has them. -/
theorem isRow_ints {w : World} {a : Option Addr} {len cap : Nat} {zs : List Int}
    (h : (a = none ∧ len = 0 ∧ cap = 0 ∧ zs = []) ∨ ∃ x, a = some x ∧ len ≤ cap ∧ cap ≤ maxLen ∧ zs.length = cap ∧ (∀ i, i < zs.length → w.cell? (x.add i) = some (.int .u8 (zs.getD i 0))) ∧ ∀ n ∈ zs, (Lit.int .u8 n).wf = true) :
    (zs.take len).length = len ∧ IsRowV w 1 len ((zs.take len).map (Value.int .u8)) (.slice a len cap) ∧ ∀ z ∈ zs.take len, 0 ≤ z ∧ z < 256 := by
  rcases h with ⟨rfl, rfl, rfl, rfl⟩ | ⟨x, rfl, h1, h2, h3, h4, h5⟩
  · exact ⟨rfl, ⟨by simp, .inl ⟨rfl, _, _, rfl⟩⟩, by simp⟩
  · have hl : (zs.take len).length = len := by rw [List.length_take]; omega
    refine ⟨hl, ⟨by rw [List.length_map, hl]; omega, ?_⟩, fun z hz => ?_⟩
    · by_cases h0 : len = 0
      · subst h0; exact .inl ⟨rfl, _, _, rfl⟩
      · have hc0 := h4 0 (by omega)
        have hx : x.add 0 = x := by simp [Addr.add]
        rw [hx] at hc0
        obtain ⟨c', e, fz, hb, hsp⟩ : ∃ (c' : Array Value) (e : TypeId) (fz : Nat × Nat), w.heap[x.block]? = some (.cells c' e fz) ∧ x.spot = none := by
          unfold World.cell? at hc0
          split at hc0
          · rename_i c e fz hb
            refine ⟨c, e, fz, hb, ?_⟩
            cases hs : x.spot with
            | none => rfl
            | some _ => rw [hs] at hc0; simp at hc0
          · simp at hc0
        have hcell : ∀ i, i < cap → c'[x.off + i]? = some (.int .u8 (zs.getD i 0)) := by
          intro i hi
          have := h4 i (by omega)
          unfold World.cell? Addr.add at this
          by_cases hi0 : i = 0
          · subst hi0
            simp only [if_true] at this
            rw [hb] at this
            simpa [hsp] using this
          · rw [if_neg hi0] at this
            simp only [hb] at this
            simpa using this
        refine .inr ⟨by omega, x, cap, c', e, fz, rfl, hsp, hb, h1, ?_, fun j u hu => ?_⟩
        · have := hcell (cap - 1) (by omega)
          have := (Array.getElem?_eq_some_iff.1 this).1
          omega
        · rw [List.getElem?_map] at hu
          obtain ⟨z, hz, rfl⟩ := Option.map_eq_some_iff.1 hu
          rw [List.getElem?_take] at hz
          split at hz
          · rename_i hj
            refine ⟨rfl, ?_⟩
            rw [hcell j (by omega), List.getD_eq_getElem?_getD, hz]; rfl
          · simp at hz
    · have := h5 z (List.mem_of_mem_take hz)
      simp [Lit.wf, IntKind.min, IntKind.max, IntKind.bits, IntKind.signed] at this
      omega

theorem walk (a0 : Option Addr) (len0 cap0 : Nat) (z0 : List Int) (a1 : Int) (w : World)
    (w0 : (a0 = none ∧ len0 = 0 ∧ cap0 = 0 ∧ z0 = []) ∨ ∃ x, a0 = some x ∧ len0 ≤ cap0 ∧ cap0 ≤ maxLen ∧ z0.length = cap0 ∧ (∀ i, i < z0.length → w.cell? (x.add i) = some (.int .u8 (z0.getD i 0))) ∧ ∀ n ∈ z0, (Lit.int .u8 n).wf = true)
    (y0 : len0 * 1 ≤ 140737488351232) (w1 : (Lit.int .u16 a1).wf = true) :
    Calls Try.prog 3 #[.slice a0 len0 cap0, .int .u16 a1] w fun e w' => e = .returned (.bool true) ∧ Below w.heap.size w w' := by
  obtain ⟨hl, hrow, hz⟩ := isRow_ints w0
  have ha : 0 ≤ a1 ∧ a1 < 65536 := by
    have := w1
    simp [Lit.wf, IntKind.min, IntKind.max, IntKind.bits, IntKind.signed] at this
    omega
  exact law_calls ora_ok (z0.take len0) a1 (CrcPure.sums 65535 (by decide) (by decide) _ hz) (CrcPure.sums a1 ha.1 ha.2 _ hz) w _ (by rw [hl]; exact hrow)
end Go.Proofs.Ytcadfopmadjanaa.CrcSums
