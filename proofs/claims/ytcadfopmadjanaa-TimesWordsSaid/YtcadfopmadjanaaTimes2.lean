/- The law of the product of two words: its walk. -/
import Derived.Test.YtcadfopmadjanaaTimes1
namespace Go.Proofs.Ytcadfopmadjanaa.Times
open Go.Abs Go.RowKit Go.Proofs.YtcadfopmadjanaaW.PrintWords Go.Proofs.YtcadfopmadjanaaW.PrintLast Go.Proofs.YtcadfopmadjanaaW.PrintMore
set_option linter.unusedVariables false
set_option linter.unusedSimpArgs false

theorem prod_le (a b : Int) (ha : 0 ≤ a) (ha' : a < 256) (hb : 0 ≤ b) (hb' : b < 256) : 0 ≤ a * b ∧ a * b ≤ 65025 :=
  ⟨Int.mul_nonneg ha hb, by
    have h := Int.mul_le_mul (show a ≤ 255 by omega) (show b ≤ 255 by omega) hb (by decide : (0 : Int) ≤ 255)
    omega⟩
theorem wide_eq (x y : Int) (hx : 0 ≤ x) (hx' : x < 65536) (hy : 0 ≤ y) (hy' : y < 65536) : wide x y = x * y % 4294967296 := by
  have e1 : x.fdiv (2 ^ 8) = x / 256 := by rw [Int.fdiv_eq_ediv_of_nonneg _ (by decide)]; rfl
  have e2 : y.fdiv (2 ^ 8) = y / 256 := by rw [Int.fdiv_eq_ediv_of_nonneg _ (by decide)]; rfl
  simp only [wide, part, low, high, e1, e2]
  simp only [IntKind.wrap, IntKind.signed, IntKind.bits, Bool.false_and, Bool.false_eq_true, if_false]
  obtain ⟨a, b, rfl, ha, ha', hb, hb'⟩ : ∃ a b, x = 256 * a + b ∧ 0 ≤ a ∧ a < 256 ∧ 0 ≤ b ∧ b < 256 := ⟨x / 256, x % 256, by omega, by omega, by omega, by omega, by omega⟩
  obtain ⟨c, d, rfl, hc, hc', hd, hd'⟩ : ∃ a b, y = 256 * a + b ∧ 0 ≤ a ∧ a < 256 ∧ 0 ≤ b ∧ b < 256 := ⟨y / 256, y % 256, by omega, by omega, by omega, by omega, by omega⟩
  have h1 : (256 * a + b) / 256 = a := by omega
  have h2 : (256 * c + d) / 256 = c := by omega
  have h3 : (256 * a + b) % 2 ^ 8 = b := by omega
  have h4 : (256 * c + d) % 2 ^ 8 = d := by omega
  have h5 : a % 2 ^ 8 = a := by omega
  have h6 : c % 2 ^ 8 = c := by omega
  have k : ∀ z : Int, 0 ≤ z → z < 256 → z % 2 ^ 16 = z := fun z _ _ => by omega
  rw [h1, h2, h3, h4, h5, h6, k a ha ha', k b hb hb', k c hc hc', k d hd hd']
  have e : (256 * a + b) * (256 * c + d) = 65536 * (a * c) + 256 * (a * d) + 256 * (b * c) + b * d := by grind
  rw [e]
  have q1 := prod_le a c ha ha' hc hc'
  have q2 := prod_le a d ha ha' hd hd'
  have q3 := prod_le b c hb hb' hc hc'
  have q4 := prod_le b d hb hb' hd hd'
  generalize a * c = p1 at *
  generalize a * d = p2 at *
  generalize b * c = p3 at *
  generalize b * d = p4 at *
  omega
theorem wide_calls' (x y : Int) (hx : 0 ≤ x) (hx' : x < 65536) (hy : 0 ≤ y) (hy' : y < 65536) (w : World) :
    Calls Try.prog 18 #[.int .u16 x, .int .u16 y] w fun e w' => e = .returned (.int .u32 (x * y % 4294967296)) ∧ Below w.heap.size w w' := by
  rw [← wide_eq x y hx hx' hy hy']; exact wide_calls x y w

set_option maxHeartbeats 8000000 in
set_option maxRecDepth 100000 in
theorem walk (a0 a1 : Int) (w : World) (w0 : (Lit.int .u16 a0).wf = true) (w1 : (Lit.int .u16 a1).wf = true) :
    Calls Try.prog 4 #[.int .u16 a0, .int .u16 a1] w fun e w' => e = .returned (.bool true) ∧ Below w.heap.size w w' := by
  have hx : 0 ≤ a0 ∧ a0 < 65536 := by have := w0; simp [Lit.wf, IntKind.min, IntKind.max, IntKind.bits, IntKind.signed] at this; omega
  have hy : 0 ≤ a1 ∧ a1 < 65536 := by have := w1; simp [Lit.wf, IntKind.min, IntKind.max, IntKind.bits, IntKind.signed] at this; omega
  have HB := Aside0.mk (Below.refl w.heap.size w)
  go_enter Try.func4, Try.ntmps4
  go_wp2_with (first | ((with_reducible refine gate_callee (f := 18) rfl ?_); refine goesL_ (some 7) rfl rfl Try.func18 (by kernel_rfl) rfl #[.int .u16 a0, .int .u16 a1] rfl (by (try simp only [List.map_toArray, List.map_cons, List.map_nil]); first | done | rfl) ?_; (with_reducible refine (wide_calls' a0 a1 hx.1 hx.2 hy.1 hy.2 _).mono ?_); rintro e w3 ⟨rfl, hb⟩; refine ⟨_, rfl, ?_⟩; have n0_ := Aside0.mk (below_step (by repeat (first | (with_reducible first | exact HB.out | apply below_alloc | apply pw_below_drewN | apply below_drew1) | exact HB.out)) hb); clear HB; have HB := n0_; clear n0_; (try clear hb)) | ((with_reducible refine gate_callee (f := 19) rfl ?_); refine gate_guard (by first | rfl | kernel_rfl) ?_; refine goesL_ (some 15) rfl rfl Try.func19 (by kernel_rfl) rfl #[] rfl (by (try simp only [List.map_toArray, List.map_cons, List.map_nil]); first | done | rfl) ?_; (with_reducible refine (alive_calls _).mono ?_); rintro e w4 ⟨rfl, hb⟩; refine ⟨_, rfl, ?_⟩; have n0_ := Aside0.mk (below_step (by repeat (first | (with_reducible first | exact HB.out | apply below_alloc | apply pw_below_drewN | apply below_drew1) | exact HB.out)) hb); clear HB; have HB := n0_; clear n0_; (try clear hb)))
  go_ret
  exact ⟨by first | rfl | (simp; done) | (simp [*]; done), by repeat (first | (with_reducible first | exact HB.out | apply below_alloc | apply pw_below_drewN | apply below_drew1) | exact HB.out)⟩
end Go.Proofs.Ytcadfopmadjanaa.Times
