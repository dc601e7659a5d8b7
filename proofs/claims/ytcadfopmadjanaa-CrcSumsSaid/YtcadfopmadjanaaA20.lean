/- A20: rows of the caller as a function's arguments. General over the program. -/
import Derived.Test.YtcadfopmadjanaaA19
namespace Go.Abs
open Go.RowKit
set_option linter.unusedVariables false
set_option linter.unusedSimpArgs false

/-- A row of the caller: its cells (those ahead of where it begins are not known), its type, its block. -/
structure ARow where
  cells : List Value
  elem : TypeId
  block : Nat

def argTree : Nat → List ARow → Tree
  | _, [] => .nil
  | i, q :: l => (argTree (i + 1) l).set 64 i (some (.cells q.cells q.elem))
def argHeap (L : List ARow) : AHeap := ⟨argTree 0 L, L.length, L.length, [], 0, [], []⟩
def blockSize (w : World) (b : Nat) : Nat := match w.heap[b]? with
  | some (.cells c _ _) => c.size
  | _ => 0
def argRen (w : World) (L : List ARow) : Ren := ⟨fun n b => ∃ q, L[n]? = some q ∧ q.block = b, blockSize w, fun b => ∃ q, q ∈ L ∧ q.block = b⟩

theorem argTree_get : ∀ (L : List ARow) (i n : Nat), i + L.length + 1 < 2 ^ 64 → (argTree i L).get n = if i ≤ n then (L[n - i]?).map (fun q => AObj.cells q.cells q.elem) else none
  | [], i, n, _ => by simp [argTree, Tree.get_nil]
  | q :: l, i, n, h => by
    have hl : i + 1 + l.length + 1 < 2 ^ 64 := by simp at h; omega
    simp only [argTree]
    by_cases hn : n = i
    · subst hn
      rw [Tree.get_set_same 64 _ _ _ (by simp at h; omega)]
      simp
    · rw [Tree.get_set_other 64 _ _ _ _ hn, argTree_get l (i + 1) n hl]
      by_cases h1 : i + 1 ≤ n
      · rw [if_pos h1, if_pos (by omega)]
        obtain ⟨k, rfl⟩ : ∃ k, n = i + 1 + k := ⟨n - (i + 1), by omega⟩
        rw [show i + 1 + k - (i + 1) = k by omega, show i + 1 + k - i = k + 1 by omega]
        simp
      · rw [if_neg h1, if_neg (by omega)]

/-- What is asked of a row in a world. -/
def ARow.At (q : ARow) (w : World) : Prop :=
  ∃ (c' : Array Value) (fz : Nat × Nat), w.heap[q.block]? = some (.cells c' q.elem fz) ∧ q.cells.length ≤ c'.size ∧ ∀ (j : Nat) (v : Value), q.cells[j]? = some v → v = poison ∨ (noPtr 8 v = true ∧ c'[j]? = some v)

theorem arg_rel {w : World} {L : List ARow} (hs : L.length ≤ 100) (h : ∀ q ∈ L, q.At w) : WRel (argRen w L) (argHeap L) w where
  small := by have : (100 : Nat) ≤ MAXN := by decide
              show L.length ≤ _; omega
  lt := by
    rintro n b ⟨q, hq, rfl⟩
    have hmem := List.mem_of_getElem? hq
    obtain ⟨c', fz, h1, _⟩ := h q hmem
    refine ⟨(List.getElem?_eq_some_iff.1 hq).1, ?_⟩
    by_cases hlt : q.block < w.heap.size
    · exact hlt
    · rw [Array.getElem?_eq_none (by omega)] at h1; simp at h1
  fn := by
    rintro n b b' ⟨q, hq, rfl⟩ ⟨q', hq', rfl⟩
    rw [hq] at hq'
    rw [Option.some.inj hq']
  inj := by
    rintro n m b _ _ ⟨q, hq, rfl⟩ _
    exact .inr ⟨q, List.mem_of_getElem? hq, rfl⟩
  obj := by
    intro n o ho
    have hg : (argTree 0 L).get n = some o := by simpa [AHeap.get, argHeap, hidden] using ho
    rw [argTree_get L 0 n (by omega), if_pos (Nat.zero_le n), Nat.sub_zero] at hg
    obtain ⟨q, hq, rfl⟩ := Option.map_eq_some_iff.1 hg
    obtain ⟨c', fz, h1, h2, h3⟩ := h q (List.mem_of_getElem? hq)
    refine ⟨q.block, _, ⟨q, hq, rfl⟩, h1, .cells _ _ _ _ h2 (.inl ⟨q, List.mem_of_getElem? hq, rfl⟩) (by simp [argRen, blockSize, h1]) ⟨by simp; omega, fun i a b ha hb => ?_⟩⟩
    rw [List.getElem?_take] at hb
    split at hb
    · rcases h3 i a ha with rfl | ⟨h4, h5⟩
      · exact .poison _
      · rw [Array.getElem?_toList, h5] at hb
        obtain rfl := Option.some.inj hb
        exact VRel.refl_of_noPtr _ 8 _ h4
    · simp at hb
  glob := fun g hg => by simp [argHeap] at hg
  top := by
    intro n hn
    show (argTree 0 L).get n = none
    rw [argTree_get L 0 n (by omega), if_pos (Nat.zero_le n), Nat.sub_zero, List.getElem?_eq_none hn]; rfl
  wr := by
    rintro n b ⟨q, hq, rfl⟩ hl
    have := (List.getElem?_eq_some_iff.1 hq).1
    have : L.length ≤ n := hl
    omega
  rob := by
    rintro b ⟨q, hq, rfl⟩
    obtain ⟨c', fz, h1, _⟩ := h q hq
    by_cases hlt : q.block < w.heap.size
    · exact hlt
    · rw [Array.getElem?_eq_none (by omega)] at h1; simp at h1

/-- Cells of which those ahead are not known. -/
def rowCells (off : Nat) (vs : List Value) : List Value := List.replicate off poison ++ vs
theorem rowCells_length (off : Nat) (vs : List Value) : (rowCells off vs).length = off + vs.length := by simp [rowCells]
theorem rowCells_get (off j : Nat) (vs : List Value) : getL (rowCells off vs) (off + j) = vs[j]? := by
  rw [getL_eq, rowCells, List.getElem?_append_right (by simp)]; simp
theorem rowCells_drop (off j : Nat) (vs : List Value) : (rowCells off vs).drop (off + j) = vs.drop j := by
  rw [rowCells, List.drop_append]; simp

/-- A row of n elements of k cells each, as the caller has it. -/
def IsRowV (w : World) (k n : Nat) (vs : List Value) (v : Value) : Prop :=
  vs.length = n * k ∧ ((n = 0 ∧ ∃ a c, v = .slice a 0 c) ∨
    (0 < n ∧ ∃ (x : Addr) (cap : Nat) (c' : Array Value) (e : TypeId) (fz : Nat × Nat), v = .slice (some x) n cap ∧ x.spot = none ∧ w.heap[x.block]? = some (.cells c' e fz) ∧ n ≤ cap ∧ x.off + cap * k ≤ c'.size ∧
      ∀ (j : Nat) (u : Value), vs[j]? = some u → noPtr 8 u = true ∧ c'[x.off + j]? = some u))

/-- The row's abstract value: it is the i-th, or empty. -/
def rowV (i off n k : Nat) : Value := .slice (some ⟨i, off, none⟩) n (UNK + k)
def emptyV : Value := .slice (some ⟨0, 0, none⟩) 0 UNK3

theorem IsRowV.empty {w : World} {k : Nat} {vs : List Value} {v : Value} (h : IsRowV w k 0 vs v) (r : Ren) : VRel r emptyV v := by
  rcases h.2 with ⟨_, a, c, rfl⟩ | ⟨h, _⟩
  · exact .sliceZ _ _ _
  · omega
theorem IsRowV.full {w : World} {k n : Nat} {vs : List Value} {v : Value} (h : IsRowV w k n vs v) (hn : 0 < n) (hk : k < UNK) :
    ∃ (off : Nat) (e : TypeId) (b : Nat), (⟨rowCells off vs, e, b⟩ : ARow).At w ∧ ∀ (L : List ARow) (i : Nat), L[i]? = some ⟨rowCells off vs, e, b⟩ → VRel (argRen w L) (rowV i off n k) v := by
  rcases h.2 with ⟨h0, _⟩ | ⟨_, x, cap, c', e, fz, rfl, hsp, hw, hc, hle, hcells⟩
  · omega
  · obtain ⟨xb, xo, xs⟩ := x
    simp only at hsp hw hle hcells
    subst hsp
    have hlen := h.1
    refine ⟨xo, e, xb, ⟨c', fz, hw, ?_, ?_⟩, ?_⟩
    · rw [rowCells_length, hlen]
      have : n * k ≤ cap * k := Nat.mul_le_mul_right k hc
      show xo + n * k ≤ _
      omega
    · intro j v hv
      simp only [rowCells] at hv
      by_cases hj : j < xo
      · rw [List.getElem?_append_left (by simpa using hj)] at hv
        exact .inl (List.mem_replicate.1 (List.mem_of_getElem? hv)).2
      · rw [List.getElem?_append_right (by simp; omega), List.length_replicate] at hv
        have := hcells (j - xo) v hv
        rw [show xo + (j - xo) = j by omega] at this
        exact .inr this
    · intro L i hi
      exact .sliceU _ _ _ _ _ _ ⟨_, hi, rfl⟩ hk hc (by simp [argRen, blockSize, hw]; exact hle)
end Go.Abs
