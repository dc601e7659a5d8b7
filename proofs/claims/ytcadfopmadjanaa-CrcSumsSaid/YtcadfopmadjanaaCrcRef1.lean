/- The document's sum of bytes (spinetref36.On): what it answers, as a plain function of bits. -/
import Derived.Test.YtcadfopmadjanaaProg
import Derived.Test.YtcadfopmadjanaaA21
namespace Go.Proofs.Ytcadfopmadjanaa.CrcRef
open Go.Abs Go.RowKit
set_option linter.unusedVariables false
set_option linter.unusedSimpArgs false

theorem noNum : NoNum Try.prog := noNum_of (by kernel_rfl)
theorem mixed : Try.prog.follows .mixedOrders = true := by kernel_rfl
noncomputable abbrev cl : Caller := absCall Try.prog noOra 5
theorem good : Good Try.prog cl := Good.of (noOra_ok _) noNum mixed 5

noncomputable abbrev ptr (n : Nat) : Value := .pointer (some ⟨n, 0, none⟩)
noncomputable abbrev cells16 (B : Nat → Bool) : List Value := [.bool (B 0), .bool (B 1), .bool (B 2), .bool (B 3), .bool (B 4), .bool (B 5), .bool (B 6), .bool (B 7), .bool (B 8), .bool (B 9), .bool (B 10), .bool (B 11), .bool (B 12), .bool (B 13), .bool (B 14), .bool (B 15)]
def poly (i : Nat) : Bool := Nat.beq i 3 || Nat.beq i 10 || Nat.beq i 15
noncomputable abbrev hq (q : Option AObj) (B : Nat → Bool) : AHeap := heapOf 1 [q, some (.cells (cells16 B) 82), some (.cells (cells16 poly) 82)]
noncomputable abbrev hp (off : Nat) (vs : List Value) (e : Nat) (B : Nat → Bool) : AHeap := hq (some (.cells (rowCells off vs) e)) B
noncomputable abbrev fv (off n cap : Nat) (l : List (Nat × Value)) : List Value := frame 84 ([(1, .slice (some ⟨0, off, none⟩) n cap), (5, ptr 1), (7, ptr 2)] ++ l)
noncomputable abbrev fr (off n : Nat) (l : List (Nat × Value)) : List Value := fv off n (UNK + 1) l

noncomputable abbrev body : Code := bodyOf Try.f15
noncomputable abbrev mainC : Code := Code.part [0] (restC 4 body)
noncomputable abbrev loopB : Code := Code.part [1, 0, 0] mainC
noncomputable abbrev inC : Code := Code.part [1, 0, 0] loopB
noncomputable abbrev inB : Code := Code.part [1, 0, 0] inC
noncomputable abbrev bitC : Code := Code.part [1, 0, 0] inB
noncomputable abbrev tailC : Code := Code.part [1] (restC 4 body)
noncomputable abbrev tailB : Code := Code.part [1, 0, 1, 0, 0] tailC

/-! ### The plain functions -/
def bits0 (sum : Int) (i : Nat) : Bool := (sum.fdiv (2 ^ (15 - i))).tmod 2 == 1
def stepB (t : Bool) (B : Nat → Bool) (i : Nat) : Bool := bif Nat.blt i 15 then !(B (i + 1) == (bif t then poly i else false)) else t
def bitOf (z : Int) (k : Nat) : Bool := (z.fdiv (2 ^ k)).tmod 2 == 1
def bitStep (z : Int) (k : Nat) (B : Nat → Bool) : Nat → Bool := stepB (!(B 0 == bitOf z k)) B
def fin (z : Int) : Nat → (Nat → Bool) → (Nat → Bool)
  | 0, B => B
  | k + 1, B => fin z k (bitStep z k B)
def onBits : (Nat → Bool) → List Int → (Nat → Bool)
  | B, [] => B
  | B, z :: l => onBits (fin z 8 B) l

/-! ### The runs -/
section
variable (off n cap : Nat) (q : Option AObj) (vs : List Value) (e b : Nat) (B : Nat → Bool) (x y z : Int)
theorem start (sum : Int) : runF Try.prog cl 1000 (itemsC 4 body) (keepL 84 [1, 5, 7]) [] ([.int .u16 sum, .slice (some ⟨0, off, none⟩) n cap] ++ List.replicate (84 - 2) undef) (heapOf 1 [q]) =
    some (fv off n cap [], hq q (bits0 sum), true) := by kernel_rfl
theorem mainInit : runF Try.prog cl 1000 (itemsC 1 mainC) (keepL 84 [1, 5, 7, 8]) [] (fv off n cap []) (hq q B) = some (fv off n cap [(8, .int .i64 0)], hq q B, true) := by kernel_rfl
theorem loopIn : runM Try.prog cl 1000 (Code.part [0] loopB) (keepL 84 [1, 5, 7, 8]) [some true] (fr off n [(8, .int .i64 x)]) (hp off vs e B) =
    some (.normal, fr off n [(8, .int .i64 x)], hp off vs e B, [decide (x < n)].all id) := by kernel_rfl
theorem loopOut : runM Try.prog cl 1000 (Code.part [0] loopB) (keepL 84 [1, 5, 7, 8]) [some false] (fv off n cap [(8, .int .i64 x)]) (hq q B) =
    some (.exit 2, fv off n cap [(8, .int .i64 x)], hq q B, [!decide (x < n)].all id) := by kernel_rfl
theorem inInit : runF Try.prog cl 1000 (itemsC 1 inC) (keepL 84 [1, 5, 7, 8, 9]) [] (fr off n [(8, .int .i64 x)]) (hp off vs e B) = some (fr off n [(8, .int .i64 x), (9, .int .i64 7)], hp off vs e B, true) := by kernel_rfl
theorem inIn : runM Try.prog cl 1000 (Code.part [0] inB) (keepL 84 [1, 5, 7, 8, 9]) [some true] (fr off n [(8, .int .i64 x), (9, .int .i64 y)]) (hp off vs e B) =
    some (.normal, fr off n [(8, .int .i64 x), (9, .int .i64 y)], hp off vs e B, [decide (0 ≤ y)].all id) := by kernel_rfl
theorem inOut : runM Try.prog cl 1000 (Code.part [0] inB) (keepL 84 [1, 5, 7, 8]) [some false] (fr off n [(8, .int .i64 x), (9, .int .i64 y)]) (hp off vs e B) =
    some (.exit 4, fr off n [(8, .int .i64 x)], hp off vs e B, [!decide (0 ≤ y)].all id) := by kernel_rfl
noncomputable def cellAt (off : Nat) (vs : List Value) (x : Int) : Value := (getL (rowCells off vs) (off + x.toNat * 1)).getD undef
theorem bitA : runF Try.prog cl 1000 (itemsC 1 bitC) (keepL 84 [1, 5, 7, 8, 9, 10]) [] (fr off n [(8, .int .i64 x), (9, .int .i64 y)]) (hp off vs e B) =
    some (fr off n [(8, .int .i64 x), (9, .int .i64 y), (10, .bool (!(B 0 == (((intV (cellAt off vs x)).fdiv (2 ^ min y.toNat 8)).tmod 2 == 1))))], hp off vs e B,
      [!decide (y < 0), Nat.blt (off + x.toNat * 1) (rowCells off vs).length && isIntB IntKind.u8 (cellAt off vs x), decide (0 ≤ x) && Nat.blt x.toNat n].all id) := by kernel_rfl
theorem bitT : runM Try.prog cl 1000 (restC 1 bitC) (keepL 84 [1, 5, 7, 8, 9]) [] (fr off n [(8, .int .i64 x), (9, .int .i64 y), (10, .bool true)]) (hp off vs e B) =
    some (.normal, fr off n [(8, .int .i64 x), (9, .int .i64 y)], hp off vs e (stepB true B), true) := by kernel_rfl
theorem bitF : runM Try.prog cl 1000 (restC 1 bitC) (keepL 84 [1, 5, 7, 8, 9]) [] (fr off n [(8, .int .i64 x), (9, .int .i64 y), (10, .bool false)]) (hp off vs e B) =
    some (.normal, fr off n [(8, .int .i64 x), (9, .int .i64 y)], hp off vs e (stepB false B), true) := by kernel_rfl
theorem inNext : runM Try.prog cl 1000 (Code.part [1, 1] inB) (keepL 84 [1, 5, 7, 8, 9]) [] (fr off n [(8, .int .i64 x), (9, .int .i64 y)]) (hp off vs e B) =
    some (.normal, fr off n [(8, .int .i64 x), (9, .int .i64 (IntKind.i64.wrap (y - 1)))], hp off vs e B, true) := by kernel_rfl
theorem loopNext : runM Try.prog cl 1000 (Code.part [1, 1] loopB) (keepL 84 [1, 5, 7, 8]) [] (fr off n [(8, .int .i64 x)]) (hp off vs e B) =
    some (.normal, fr off n [(8, .int .i64 (IntKind.i64.wrap (x + 1)))], hp off vs e B, true) := by kernel_rfl
end
end Go.Proofs.Ytcadfopmadjanaa.CrcRef
