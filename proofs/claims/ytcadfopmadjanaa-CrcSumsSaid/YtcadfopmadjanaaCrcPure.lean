/- The plain law of the sums: bit by bit is byte by byte. -/
import Derived.Test.YtcadfopmadjanaaCrcOn1
import Derived.Test.YtcadfopmadjanaaCrcOn2
namespace Go.Proofs.Ytcadfopmadjanaa.CrcPure
open Go.Abs CrcRef CrcOn
set_option linter.unusedVariables false
set_option linter.unusedSimpArgs false

theorem small16 (z : Nat) (h : z < 65536) : (z : Int) % 2 ^ 16 = z := by omega
theorem bits_xor (a b : BitVec 16) : bits .xor .u16 (a.toNat : Int) (b.toNat : Int) = ((a ^^^ b).toNat : Int) := by
  have ha : BitVec.ofInt 16 (a.toNat : Int) = a := by simp
  have hb : BitVec.ofInt 16 (b.toNat : Int) = b := by simp
  simp only [bits, IntKind.bits, ha, hb, IntKind.wrap, IntKind.signed, Bool.false_and, Bool.false_eq_true, if_false]
  exact small16 _ (a ^^^ b).isLt
theorem bits_and (a b : BitVec 16) : bits .and .u16 (a.toNat : Int) (b.toNat : Int) = ((a &&& b).toNat : Int) := by
  have ha : BitVec.ofInt 16 (a.toNat : Int) = a := by simp
  have hb : BitVec.ofInt 16 (b.toNat : Int) = b := by simp
  simp only [bits, IntKind.bits, ha, hb, IntKind.wrap, IntKind.signed, Bool.false_and, Bool.false_eq_true, if_false]
  exact small16 _ (a &&& b).isLt
theorem up_eq (a : BitVec 16) : up (a.toNat : Int) = ((a <<< 1).toNat : Int) := by
  simp only [up, IntKind.wrap, IntKind.bits, IntKind.signed, Bool.false_and, Bool.false_eq_true, if_false, BitVec.toNat_shiftLeft, Nat.shiftLeft_eq]
  omega
theorem top_eq (a : BitVec 16) : top (a.toNat : Int) = a.msb := by
  unfold top
  rw [show (32768 : Int) = ((32768 : BitVec 16).toNat : Int) from rfl, bits_and]
  have h1 : a &&& 32768#16 = if a.msb then 32768#16 else 0#16 := by
    apply BitVec.eq_of_getLsbD_eq
    intro i hi
    have : (32768#16 : BitVec 16).getLsbD i = decide (i = 15) := by
      have : i = 0 ∨ i = 1 ∨ i = 2 ∨ i = 3 ∨ i = 4 ∨ i = 5 ∨ i = 6 ∨ i = 7 ∨ i = 8 ∨ i = 9 ∨ i = 10 ∨ i = 11 ∨ i = 12 ∨ i = 13 ∨ i = 14 ∨ i = 15 := by omega
      rcases this with rfl | rfl | rfl | rfl | rfl | rfl | rfl | rfl | rfl | rfl | rfl | rfl | rfl | rfl | rfl | rfl <;> rfl
    rw [BitVec.getLsbD_and, this]
    by_cases h : i = 15
    · subst h
      cases hm : a.msb <;> simp [BitVec.msb, BitVec.getMsbD] at hm ⊢ <;> simp [hm] <;> rfl
    · cases hm : a.msb
      · simp [h]
      · simp only [h, decide_false, Bool.and_false, if_true]; rw [this]; simp [h]
  show ((((a &&& 32768#16).toNat : Int)) != 0) = a.msb
  rw [h1]
  cases a.msb <;> rfl

def vBit (a : BitVec 16) : BitVec 16 := if a.msb then (a <<< 1) ^^^ 4129#16 else a <<< 1
theorem crcBit_eq (a : BitVec 16) : crcBit (a.toNat : Int) = ((vBit a).toNat : Int) := by
  unfold crcBit vBit
  rw [top_eq, up_eq]
  cases a.msb with
  | true => rw [cond_true, if_pos rfl, show (4129 : Int) = ((4129#16 : BitVec 16).toNat : Int) from rfl, bits_xor]
  | false => rw [cond_false, if_neg (by simp)]

/-- The bits of a word, the highest first. -/
def Rep (a : BitVec 16) (B : Nat → Bool) : Prop := ∀ i, i < 16 → B i = a.getLsbD (15 - i)
theorem poly_eq (i : Nat) (h : i < 16) : poly i = (4129#16 : BitVec 16).getLsbD (15 - i) := by
  have : i = 0 ∨ i = 1 ∨ i = 2 ∨ i = 3 ∨ i = 4 ∨ i = 5 ∨ i = 6 ∨ i = 7 ∨ i = 8 ∨ i = 9 ∨ i = 10 ∨ i = 11 ∨ i = 12 ∨ i = 13 ∨ i = 14 ∨ i = 15 := by omega
  rcases this with rfl | rfl | rfl | rfl | rfl | rfl | rfl | rfl | rfl | rfl | rfl | rfl | rfl | rfl | rfl | rfl <;> rfl
def vStep (t : Bool) (a : BitVec 16) : BitVec 16 := (a <<< 1) ^^^ (if t then 4129#16 else 0#16)
theorem step_rep {a : BitVec 16} {B : Nat → Bool} (h : Rep a B) (t : Bool) : Rep (vStep t a) (stepB t B) := by
  intro i hi
  unfold stepB vStep
  by_cases h15 : i < 15
  · rw [show Nat.blt i 15 = true by simpa [Nat.blt_eq] using h15, cond_true, h (i + 1) (by omega), BitVec.getLsbD_xor, BitVec.getLsbD_shiftLeft]
    have e : 15 - i - 1 = 15 - (i + 1) := by omega
    have h1 : decide (15 - i < 16) = true := by simp; omega
    have h2 : decide (15 - i < 1) = false := by simp; omega
    rw [h1, h2, e]
    cases t
    · simp
    · simp only [cond_true, if_true, Bool.not_false, Bool.true_and, poly_eq i hi]
      generalize a.getLsbD (15 - (i + 1)) = p
      generalize (4129#16 : BitVec 16).getLsbD (15 - i) = q
      cases p <;> cases q <;> rfl
  · obtain rfl : i = 15 := by omega
    rw [show Nat.blt 15 15 = false from rfl, cond_false, BitVec.getLsbD_xor, BitVec.getLsbD_shiftLeft]
    cases t <;> simp <;> rfl

theorem bitOf_eq (z m : Nat) : bitOf (z : Int) m = z.testBit m := by
  have e : ((z : Int).fdiv (2 ^ m)).tmod 2 = ((z / 2 ^ m % 2 : Nat) : Int) := by
    rw [Int.fdiv_eq_ediv_of_nonneg _ (by exact Int.le_of_lt (Int.pow_pos (by decide)))]
    have : ((2 : Int) ^ m) = ((2 ^ m : Nat) : Int) := by simp
    rw [this, ← Int.natCast_ediv]
    rfl
  unfold bitOf
  rw [e, Nat.testBit_eq_decide_div_mod_eq]
  by_cases h : z / 2 ^ m % 2 = 1
  · rw [h]; rfl
  · have : z / 2 ^ m % 2 = 0 := by omega
    rw [this]; rfl

def rest (z m : Nat) : BitVec 16 := (BitVec.ofNat 16 z) <<< (16 - m)
theorem rest_up (z m : Nat) (h : m < 16) : rest z (m + 1) <<< 1 = rest z m := by
  unfold rest
  rw [← BitVec.shiftLeft_add, show 16 - (m + 1) + 1 = 16 - m by omega]
theorem rest_msb (z m : Nat) (h : m < 8) : (rest z (m + 1)).msb = z.testBit m := by
  unfold rest
  rw [BitVec.msb_eq_getLsbD_last, BitVec.getLsbD_shiftLeft]
  have e : 16 - 1 - (16 - (m + 1)) = m := by omega
  have h1 : decide (16 - 1 < 16 - (m + 1)) = false := decide_eq_false (by omega)
  rw [e, h1, BitVec.getLsbD_ofNat]
  have h2 : decide (m < 16) = true := by simp; omega
  simp [h2]
theorem vBit_rest (a : BitVec 16) (z m : Nat) (h : m < 8) : vBit (a ^^^ rest z (m + 1)) = vStep (!(a.msb == z.testBit m)) a ^^^ rest z m := by
  unfold vBit vStep
  have hm : (a ^^^ rest z (m + 1)).msb = !(a.msb == z.testBit m) := by
    rw [BitVec.msb_xor, rest_msb z m h]
    cases a.msb <;> cases z.testBit m <;> rfl
  have hs : (a ^^^ rest z (m + 1)) <<< 1 = (a <<< 1) ^^^ rest z m := by
    rw [BitVec.shiftLeft_xor_distrib, rest_up z m (by omega)]
  rw [hm, hs]
  cases (!(a.msb == z.testBit m)) with
  | true => simp only [if_true]; rw [BitVec.xor_assoc, BitVec.xor_comm (rest z m), ← BitVec.xor_assoc]
  | false => simp

theorem bits_rep (z : Nat) : ∀ (m : Nat), m ≤ 8 → ∀ (a : BitVec 16) (B : Nat → Bool), Rep a B → ∃ A : BitVec 16, crcBits m ((a ^^^ rest z m).toNat : Int) = (A.toNat : Int) ∧ Rep A (fin (z : Int) m B)
  | 0, _, a, B, h => ⟨a, by
      have : rest z 0 = 0#16 := by unfold rest; apply BitVec.eq_of_getLsbD_eq; intro i hi; simp
      rw [this]; simp [crcBits], h⟩
  | m + 1, hm, a, B, h => by
    have h0 : B 0 = a.msb := by rw [h 0 (by omega), BitVec.msb_eq_getLsbD_last]
    obtain ⟨A, h1, h2⟩ := bits_rep z m (by omega) (vStep (!(a.msb == z.testBit m)) a) (stepB (!(a.msb == z.testBit m)) B) (step_rep h _)
    refine ⟨A, ?_, ?_⟩
    · show crcBits m (crcBit _) = _
      rw [crcBit_eq, vBit_rest a z m (by omega)]; exact h1
    · show Rep A (fin (z : Int) m (bitStep (z : Int) m B))
      unfold bitStep
      rw [bitOf_eq, h0]; exact h2

theorem byte_rep {a : BitVec 16} {B : Nat → Bool} (h : Rep a B) (z : Nat) (hz : z < 256) : ∃ A : BitVec 16, crcStep (a.toNat : Int) (z : Int) = (A.toNat : Int) ∧ Rep A (fin (z : Int) 8 B) := by
  obtain ⟨A, h1, h2⟩ := bits_rep z 8 (by omega) a B h
  refine ⟨A, ?_, h2⟩
  unfold crcStep xorA
  have e : IntKind.u16.wrap (IntKind.u16.wrap (z : Int) * 2 ^ 8) = ((rest z 8).toNat : Int) := by
    simp only [rest, IntKind.wrap, IntKind.bits, IntKind.signed, Bool.false_and, Bool.false_eq_true, if_false, BitVec.toNat_shiftLeft, Nat.shiftLeft_eq, BitVec.toNat_ofNat]
    omega
  rw [e, bits_xor]; exact h1

theorem on_rep : ∀ (zs : List Int), (∀ z ∈ zs, 0 ≤ z ∧ z < 256) → ∀ (a : BitVec 16) (B : Nat → Bool), Rep a B → ∃ A : BitVec 16, crcOn (a.toNat : Int) zs = (A.toNat : Int) ∧ Rep A (onBits B zs)
  | [], _, a, B, h => ⟨a, rfl, h⟩
  | z :: l, hz, a, B, h => by
    obtain ⟨n, rfl⟩ := Int.eq_ofNat_of_zero_le (hz z (by simp)).1
    obtain ⟨A, h1, h2⟩ := byte_rep h n (by have := (hz (n : Int) (by simp)).2; omega)
    obtain ⟨A', h3, h4⟩ := on_rep l (fun y hy => hz y (by simp [hy])) A _ h2
    refine ⟨A', ?_, h4⟩
    show crcOn (crcStep _ _) l = _
    rw [h1]; exact h3

theorem num_rep {a : BitVec 16} {B : Nat → Bool} (h : Rep a B) : ∀ k, k ≤ 16 → numB B k = ((a.toNat / 2 ^ (16 - k) : Nat) : Int)
  | 0, _ => by
    have := a.isLt
    simp only [numB]
    rw [Nat.div_eq_of_lt (by simpa using this)]; rfl
  | k + 1, hk => by
    have ih := num_rep h k (by omega)
    simp only [numB, ih, h k (by omega)]
    have e : 16 - k = (16 - (k + 1)) + 1 := by omega
    have e2 : 15 - k = 16 - (k + 1) := by omega
    rw [e2, e, Nat.pow_succ, ← Nat.div_div_eq_div_mul]
    have hb : a.getLsbD (16 - (k + 1)) = decide (a.toNat / 2 ^ (16 - (k + 1)) % 2 = 1) := by
      rw [BitVec.getLsbD, Nat.testBit_eq_decide_div_mod_eq]
    rw [hb]
    generalize a.toNat / 2 ^ (16 - (k + 1)) = q
    by_cases hq : q % 2 = 1
    · simp [hq]; omega
    · simp [hq]; omega

theorem bits0_rep (s : Nat) (hs : s < 65536) : Rep (BitVec.ofNat 16 s) (bits0 (s : Int)) := by
  intro i hi
  have := bitOf_eq s (15 - i)
  unfold bitOf at this
  unfold bits0
  rw [this, BitVec.getLsbD_ofNat]
  have h2 : decide (15 - i < 16) = true := by simp; omega
  simp [h2]

/-- Byte by byte is bit by bit. -/
theorem sums (s : Int) (h0 : 0 ≤ s) (h1 : s < 65536) (zs : List Int) (hz : ∀ z ∈ zs, 0 ≤ z ∧ z < 256) : crcOn s zs = refOn s zs := by
  obtain ⟨n, rfl⟩ := Int.eq_ofNat_of_zero_le h0
  have hn : n < 65536 := by omega
  obtain ⟨A, h2, h3⟩ := on_rep zs hz (BitVec.ofNat 16 n) _ (bits0_rep n hn)
  have e : ((BitVec.ofNat 16 n).toNat : Int) = (n : Int) := by simp; omega
  rw [e] at h2
  rw [h2]
  unfold refOn
  rw [num_rep h3 16 (by omega)]
  simp
end Go.Proofs.Ytcadfopmadjanaa.CrcPure
