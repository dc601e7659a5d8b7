/- A1: an abstract machine over named blocks (its heap), and how its values and heaps are related to the model's. General over the program. -/
import Derived.Calls
import Derived.Orders
import Derived.Laws.Sem
import Derived.Laws.World
import Derived.Laws.Entries
import Derived.Below
import Derived.KernelRfl
namespace Go.Abs
set_option linter.unusedVariables false
set_option linter.unusedSimpArgs false


/-- A capacity that is not known: UNK + (cells of an element). -/
def UNK : Nat := 2 ^ 70
/-- The capacity of an empty slice of which nothing more is known. -/
def UNK2 : Nat := 2 ^ 71
/-- The capacity of an empty slice of which nothing is known: neither its place, nor whether it is nil. -/
def UNK3 : Nat := 2 ^ 72

inductive AObj where
  | cells (c : List Value) (elem : TypeId)
  | map (es : List MapEntry) (clock : Nat)
  | iter (s : ByteArray) (pos : Nat)

inductive Tree where
  | nil
  | node (o : Option AObj) (l r : Tree)

def Tree.get : Tree → Nat → Option AObj
  | .nil, _ => none
  | .node o l r, k => bif Nat.beq k 0 then o else bif Nat.beq (k % 2) 1 then l.get (k / 2) else r.get (k / 2 - 1)

def Tree.set : Nat → Tree → Nat → Option AObj → Tree
  | 0, t, _, _ => t
  | f + 1, .nil, k, o => bif Nat.beq k 0 then .node o .nil .nil else bif Nat.beq (k % 2) 1 then .node none (Tree.set f .nil (k / 2) o) .nil else .node none .nil (Tree.set f .nil (k / 2 - 1) o)
  | f + 1, .node o0 l r, k, o => bif Nat.beq k 0 then .node o l r else bif Nat.beq (k % 2) 1 then .node o0 (Tree.set f l (k / 2) o) r else .node o0 l (Tree.set f r (k / 2 - 1) o)

theorem beq_of {a b : Nat} (h : a = b) : Nat.beq a b = true := by subst h; simp
theorem beq_ne {a b : Nat} (h : a ≠ b) : Nat.beq a b = false := by
  cases hb : Nat.beq a b with
  | false => rfl
  | true => exact absurd (Nat.eq_of_beq_eq_true hb) h

theorem Tree.get_nil (k : Nat) : Tree.nil.get k = none := rfl

theorem Tree.get_set_same (f : Nat) : ∀ (t : Tree) (k : Nat) (o : Option AObj), k + 1 < 2 ^ f → (t.set f k o).get k = o := by
  induction f with
  | zero => intro t k o h; simp at h
  | succ f ih =>
    intro t k o h
    by_cases h0 : k = 0
    · cases t <;> simp [Tree.set, Tree.get, beq_of h0]
    · by_cases h1 : k % 2 = 1
      · have hk : k / 2 + 1 < 2 ^ f := by rw [Nat.pow_succ] at h; omega
        cases t <;> simp [Tree.set, Tree.get, beq_ne h0, beq_of h1, ih _ _ _ hk]
      · have hk : k / 2 - 1 + 1 < 2 ^ f := by rw [Nat.pow_succ] at h; omega
        cases t <;> simp [Tree.set, Tree.get, beq_ne h0, beq_ne h1, ih _ _ _ hk]

theorem Tree.get_set_other (f : Nat) : ∀ (t : Tree) (k j : Nat) (o : Option AObj), j ≠ k → (t.set f k o).get j = t.get j := by
  induction f with
  | zero => intro t k j o _; rfl
  | succ f ih =>
    intro t k j o hne
    by_cases h0 : k = 0
    · have hj : j ≠ 0 := by omega
      cases t <;> simp [Tree.set, Tree.get, beq_of h0, beq_ne hj, Tree.get_nil]
    · by_cases h1 : k % 2 = 1
      · cases t
        · simp only [Tree.set, beq_ne h0, beq_of h1, cond_false, cond_true, Tree.get, Tree.get_nil]
          by_cases j0 : j = 0
          · simp [beq_of j0]
          · by_cases j1 : j % 2 = 1
            · simp [beq_ne j0, beq_of j1, ih .nil (k / 2) (j / 2) o (by omega), Tree.get]
            · simp [beq_ne j0, beq_ne j1]
        · simp only [Tree.set, beq_ne h0, beq_of h1, cond_false, cond_true, Tree.get]
          by_cases j0 : j = 0
          · simp [beq_of j0]
          · by_cases j1 : j % 2 = 1
            · simp [beq_ne j0, beq_of j1, ih _ (k / 2) (j / 2) o (by omega)]
            · simp [beq_ne j0, beq_ne j1]
      · cases t
        · simp only [Tree.set, beq_ne h0, beq_ne h1, cond_false, Tree.get, Tree.get_nil]
          by_cases j0 : j = 0
          · simp [beq_of j0]
          · by_cases j1 : j % 2 = 1
            · simp [beq_ne j0, beq_of j1]
            · simp [beq_ne j0, beq_ne j1, ih .nil (k / 2 - 1) (j / 2 - 1) o (by omega), Tree.get]
        · simp only [Tree.set, beq_ne h0, beq_ne h1, cond_false, Tree.get]
          by_cases j0 : j = 0
          · simp [beq_of j0]
          · by_cases j1 : j % 2 = 1
            · simp [beq_ne j0, beq_of j1]
            · simp [beq_ne j0, beq_ne j1, ih _ (k / 2 - 1) (j / 2 - 1) o (by omega)]

/-- The abstract heap: objects by name; the next name; names below 'lim' are not written; names in the ranges of 'hid' are not there; globals below 'glob' have their numbers as names; 'obl': what is taken to be true; 'hints': what the next branches are taken to be. -/
structure AHeap where
  t : Tree
  next : Nat
  lim : Nat
  hid : List (Nat × Nat)
  glob : Nat
  obl : List Bool
  hints : List (Option Bool)

def hidden : List (Nat × Nat) → Nat → Bool
  | [], _ => false
  | (a, b) :: l, n => (Nat.ble a n && Nat.blt n b) || hidden l n

def MAXN : Nat := 1000000000

namespace AHeap
def get (h : AHeap) (n : Nat) : Option AObj := bif hidden h.hid n then none else h.t.get n
def put (h : AHeap) (n : Nat) (o : Option AObj) : AHeap := { h with t := h.t.set 64 n o }
/-- A new block. -/
def alloc (h : AHeap) (o : AObj) : Option (Nat × AHeap) :=
  bif Nat.ble h.next MAXN && !hidden h.hid h.next then some (h.next, { h with t := h.t.set 64 h.next (some o), next := h.next + 1 }) else none
/-- May a name be written? -/
def may (h : AHeap) (n : Nat) : Bool := Nat.ble h.lim n
end AHeap

theorem lt3 {c : Nat} (h : c < UNK) (l : Nat) : ¬ (l = 0 ∧ c = UNK3) := by
  rintro ⟨_, rfl⟩
  exact absurd h (by decide)

def getL : List Value → Nat → Option Value
  | [], _ => none
  | a :: _, 0 => some a
  | _ :: l, n + 1 => getL l n
def setL : List Value → Nat → Value → List Value
  | [], _, _ => []
  | _ :: l, 0, v => v :: l
  | a :: l, n + 1, v => a :: setL l n v
theorem getL_eq : ∀ (l : List Value) (i : Nat), getL l i = l[i]?
  | [], _ => by simp [getL]
  | _ :: _, 0 => by simp [getL]
  | _ :: l, n + 1 => by simp [getL, getL_eq l n]
theorem setL_eq : ∀ (l : List Value) (i : Nat) (v : Value), setL l i v = l.set i v
  | [], _, _ => by simp [setL]
  | _ :: _, 0, _ => by simp [setL]
  | _ :: l, n + 1, v => by simp [setL, setL_eq l n]

/-! ### Names and blocks -/
/-- Which name stands for which block; how many cells a block has; which blocks are only read. -/
structure Ren where
  rel : Nat → Nat → Prop
  bs : Nat → Nat
  ro : Nat → Prop

structure Ren.le (r r' : Ren) : Prop where
  rel : ∀ n b, r.rel n b → r'.rel n b
  bs : ∀ n b, r.rel n b → r'.bs b = r.bs b
  ro : r'.ro = r.ro

theorem Ren.le.refl (r : Ren) : r.le r := ⟨fun _ _ h => h, fun _ _ _ => rfl, rfl⟩
theorem Ren.le.trans {a b c : Ren} (h : a.le b) (k : b.le c) : a.le c :=
  ⟨fun n x hx => k.rel n x (h.rel n x hx), fun n x hx => (k.bs n x (h.rel n x hx)).trans (h.bs n x hx), k.ro.trans h.ro⟩

def isAtom : Value → Bool
  | .bool _ | .int _ _ | .string _ | .pointer none | .slice none _ _ | .map none | .nilFunc | .nilIface => true
  | _ => false

/-- A value that stands for any. -/
def poison : Value := .complex .f32 0 0

inductive VRel (r : Ren) : Value → Value → Prop
  | poison (v : Value) : VRel r poison v
  | atom (v : Value) (h : isAtom v = true) : VRel r v v
  | ptr (a b o : Nat) (s : Option Nat) (h : r.rel a b) : VRel r (.pointer (some ⟨a, o, s⟩)) (.pointer (some ⟨b, o, none⟩))
  | slice (a b o l c : Nat) (h : r.rel a b) (hc : c < UNK) : VRel r (.slice (some ⟨a, o, none⟩) l c) (.slice (some ⟨b, o, none⟩) l c)
  | sliceE (a b o o' c : Nat) (h : r.rel a b) : VRel r (.slice (some ⟨a, o, none⟩) 0 UNK2) (.slice (some ⟨b, o', none⟩) 0 c)
  | sliceZ (a : Addr) (s : Option Addr) (c : Nat) : VRel r (.slice (some a) 0 UNK3) (.slice s 0 c)
  | sliceU (a b o l c k : Nat) (h : r.rel a b) (hk : k < UNK) (hl : l ≤ c) (hc : o + c * k ≤ r.bs b) : VRel r (.slice (some ⟨a, o, none⟩) l (UNK + k)) (.slice (some ⟨b, o, none⟩) l c)
  | map (a b : Nat) (h : r.rel a b) : VRel r (.map (some a)) (.map (some b))
  | func (f : FuncId) (as bs : Array Value) (h : as.size = bs.size) (hh : ∀ i (ha : i < as.size) (hb : i < bs.size), VRel r as[i] bs[i]) :
      VRel r (.func (.func f) #[] as) (.func (.func f) #[] bs)
  | iface (t : TypeId) (v v' : Value) (h : VRel r v v') : VRel r (.iface t v) (.iface t v')
  | agg (as bs : Array Value) (h : as.size = bs.size) (hh : ∀ i (ha : i < as.size) (hb : i < bs.size), VRel r as[i] bs[i]) : VRel r (.agg as) (.agg bs)
  | tuple (as bs : Array Value) (h : as.size = bs.size) (hh : ∀ i (ha : i < as.size) (hb : i < bs.size), VRel r as[i] bs[i]) : VRel r (.tuple as) (.tuple bs)

theorem VRel.mono {r r' : Ren} (hr : r.le r') {v v' : Value} (h : VRel r v v') : VRel r' v v' := by
  induction h with
  | poison v => exact .poison v
  | atom v h => exact .atom v h
  | ptr a b o s h => exact .ptr a b o s (hr.rel _ _ h)
  | slice a b o l c h hc => exact .slice a b o l c (hr.rel _ _ h) hc
  | sliceE a b o o' c h => exact .sliceE a b o o' c (hr.rel _ _ h)
  | sliceZ a s c => exact .sliceZ a s c
  | sliceU a b o l c k h hk hl hc => exact .sliceU a b o l c k (hr.rel _ _ h) hk hl (by rw [hr.bs _ _ h]; exact hc)
  | map a b h => exact .map a b (hr.rel _ _ h)
  | func f as bs h _ ih => exact .func f as bs h ih
  | iface t v v' _ ih => exact .iface t v v' ih
  | agg as bs h _ ih => exact .agg as bs h ih
  | tuple as bs h _ ih => exact .tuple as bs h ih

/-- Lists of values, one by one. -/
def LRel (r : Ren) (l l' : List Value) : Prop := l.length = l'.length ∧ ∀ (i : Nat) (a b : Value), l[i]? = some a → l'[i]? = some b → VRel r a b

theorem LRel.mono {r r' : Ren} (hr : r.le r') {l l' : List Value} (h : LRel r l l') : LRel r' l l' := ⟨h.1, fun i a b ha hb => (h.2 i a b ha hb).mono hr⟩
theorem LRel.nil (r : Ren) : LRel r [] [] := ⟨rfl, fun i a b ha _ => by simp at ha⟩
theorem LRel.cons {r : Ren} {a b : Value} {l l' : List Value} (h : VRel r a b) (hl : LRel r l l') : LRel r (a :: l) (b :: l') := by
  refine ⟨by simp [hl.1], fun i x y hx hy => ?_⟩
  cases i with
  | zero => simp at hx hy; subst hx; subst hy; exact h
  | succ i => simp at hx hy; exact hl.2 i x y hx hy
theorem LRel.head {r : Ren} {a b : Value} {l l' : List Value} (h : LRel r (a :: l) (b :: l')) : VRel r a b := h.2 0 a b rfl rfl
theorem LRel.tail {r : Ren} {a b : Value} {l l' : List Value} (h : LRel r (a :: l) (b :: l')) : LRel r l l' :=
  ⟨by have := h.1; simpa using this, fun i x y hx hy => h.2 (i + 1) x y (by simpa using hx) (by simpa using hy)⟩
theorem LRel.nil_left {r : Ren} {l : List Value} (h : LRel r [] l) : l = [] := by have := h.1; simpa using this.symm
theorem LRel.cons_left {r : Ren} {a : Value} {l l' : List Value} (h : LRel r (a :: l) l') : ∃ b m, l' = b :: m ∧ VRel r a b ∧ LRel r l m := by
  cases l' with
  | nil => have := h.1; simp at this
  | cons b m => exact ⟨b, m, rfl, h.head, h.tail⟩
theorem LRel.append {r : Ren} {l l' m m' : List Value} (h : LRel r l l') (k : LRel r m m') : LRel r (l ++ m) (l' ++ m') := by
  induction l generalizing l' with
  | nil => rw [h.nil_left]; exact k
  | cons a l ih => obtain ⟨b, n, rfl, hab, hn⟩ := h.cons_left; exact .cons hab (ih hn)
theorem LRel.get {r : Ren} {l l' : List Value} (h : LRel r l l') {i : Nat} {a : Value} (ha : l[i]? = some a) : ∃ b, l'[i]? = some b ∧ VRel r a b := by
  have hi : i < l.length := by by_cases hi : i < l.length; exact hi; rw [List.getElem?_eq_none (by omega)] at ha; simp at ha
  have hi' : i < l'.length := by rw [← h.1]; exact hi
  exact ⟨l'[i], List.getElem?_eq_getElem hi', h.2 i a _ ha (List.getElem?_eq_getElem hi')⟩
theorem LRel.set {r : Ren} {l l' : List Value} (h : LRel r l l') (i : Nat) {a b : Value} (hab : VRel r a b) : LRel r (l.set i a) (l'.set i b) := by
  refine ⟨by simp [h.1], fun j x y hx hy => ?_⟩
  rw [List.getElem?_set] at hx hy
  by_cases hij : i = j
  · subst hij
    simp only [if_true] at hx hy
    split at hx <;> split at hy <;> simp_all
  · simp only [hij, if_false] at hx hy; exact h.2 j x y hx hy
theorem LRel.take {r : Ren} {l l' : List Value} (h : LRel r l l') (n : Nat) : LRel r (l.take n) (l'.take n) := by
  refine ⟨by simp [h.1], fun j x y hx hy => ?_⟩
  rw [List.getElem?_take] at hx hy
  split at hx <;> simp_all
  exact h.2 j x y hx hy
theorem LRel.drop {r : Ren} {l l' : List Value} (h : LRel r l l') (n : Nat) : LRel r (l.drop n) (l'.drop n) := by
  refine ⟨by simp [h.1], fun j x y hx hy => ?_⟩
  rw [List.getElem?_drop] at hx hy
  exact h.2 _ x y hx hy

theorem LRel.of_arrays {r : Ren} {as bs : Array Value} (h : as.size = bs.size) (hh : ∀ i (ha : i < as.size) (hb : i < bs.size), VRel r as[i] bs[i]) : LRel r as.toList bs.toList := by
  refine ⟨by simpa using h, fun i a b ha hb => ?_⟩
  rw [Array.getElem?_toList] at ha hb
  obtain ⟨h1, rfl⟩ := Array.getElem?_eq_some_iff.1 ha
  obtain ⟨h2, rfl⟩ := Array.getElem?_eq_some_iff.1 hb
  exact hh i h1 h2
theorem LRel.arrays {r : Ren} {as bs : Array Value} (h : LRel r as.toList bs.toList) : as.size = bs.size ∧ ∀ i (ha : i < as.size) (hb : i < bs.size), VRel r as[i] bs[i] := by
  refine ⟨by simpa using h.1, fun i ha hb => h.2 i _ _ ?_ ?_⟩
  · simp [Array.getElem?_toList, ha]
  · simp [Array.getElem?_toList, hb]
theorem VRel.agg' {r : Ren} {l l' : List Value} (h : LRel r l l') : VRel r (.agg l.toArray) (.agg l'.toArray) :=
  have h' : LRel r l.toArray.toList l'.toArray.toList := by simpa using h
  .agg _ _ h'.arrays.1 h'.arrays.2
theorem VRel.tuple' {r : Ren} {l l' : List Value} (h : LRel r l l') : VRel r (.tuple l.toArray) (.tuple l'.toArray) :=
  have h' : LRel r l.toArray.toList l'.toArray.toList := by simpa using h
  .tuple _ _ h'.arrays.1 h'.arrays.2

theorem VRel.undef (r : Ren) : VRel r undef undef := .tuple #[] #[] rfl (fun i ha => by simp at ha)

/-! ### What is read off a related value -/
section
variable {r : Ren} {v' : Value}
theorem VRel.bool_inv {b : Bool} (h : VRel r (.bool b) v') : v' = .bool b := by cases h; rfl
theorem VRel.int_inv {k : IntKind} {n : Int} (h : VRel r (.int k n) v') : v' = .int k n := by cases h; rfl
theorem VRel.string_inv {s : ByteArray} (h : VRel r (.string s) v') : v' = .string s := by cases h; rfl
theorem VRel.ptr_inv {a : Addr} (h : VRel r (.pointer (some a)) v') : ∃ b, v' = .pointer (some ⟨b, a.off, none⟩) ∧ True ∧ r.rel a.block b := by
  cases h with
  | atom _ h => simp [isAtom] at h
  | ptr a b o s h => exact ⟨b, rfl, trivial, h⟩
theorem VRel.nilptr_inv (h : VRel r (.pointer none) v') : v' = .pointer none := by cases h; rfl
theorem VRel.nilslice_inv {l c : Nat} (h : VRel r (.slice none l c) v') : v' = .slice none l c := by cases h; rfl
theorem VRel.slice_shape {a : Addr} {l c : Nat} (h : VRel r (.slice (some a) l c) v') : ∃ (s : Option Addr) (c' : Nat), v' = .slice s l c' := by
  cases h with
  | atom _ h => simp [isAtom] at h
  | slice a b o l c h hc => exact ⟨_, _, rfl⟩
  | sliceE a b o o' c h => exact ⟨_, _, rfl⟩
  | sliceZ a s c => exact ⟨_, _, rfl⟩
  | sliceU a b o l c k h hk hl hc => exact ⟨_, _, rfl⟩
theorem VRel.slice_some {a : Addr} {l c : Nat} (h : VRel r (.slice (some a) l c) v') (hne : c ≠ UNK3) : ∃ (s : Addr) (c' : Nat), v' = .slice (some s) l c' := by
  cases h with
  | atom _ h => simp [isAtom] at h
  | slice a b o l c h hc => exact ⟨_, _, rfl⟩
  | sliceE a b o o' c h => exact ⟨_, _, rfl⟩
  | sliceZ a s c => exact absurd rfl hne
  | sliceU a b o l c k h hk hl hc => exact ⟨_, _, rfl⟩
theorem VRel.slice_inv {a : Addr} {l c : Nat} (h : VRel r (.slice (some a) l c) v') (hne : ¬ (l = 0 ∧ c = UNK3)) :
    ∃ b o' c', v' = .slice (some ⟨b, o', none⟩) l c' ∧ a.spot = none ∧ r.rel a.block b ∧
      ((o' = a.off ∧ c' = c ∧ c < UNK) ∨ (l = 0 ∧ c = UNK2) ∨ ∃ k, k < UNK ∧ o' = a.off ∧ c = UNK + k ∧ l ≤ c' ∧ a.off + c' * k ≤ r.bs b) := by
  cases h with
  | atom _ h => simp [isAtom] at h
  | slice a b o l c h hc => exact ⟨b, o, c, rfl, rfl, h, .inl ⟨rfl, rfl, hc⟩⟩
  | sliceE a b o o' c h => exact ⟨b, o', c, rfl, rfl, h, .inr (.inl ⟨rfl, rfl⟩)⟩
  | sliceZ a s c => exact absurd ⟨rfl, rfl⟩ hne
  | sliceU a b o l c k h hk hl hc => exact ⟨b, o, c, rfl, rfl, h, .inr (.inr ⟨k, hk, rfl, rfl, hl, hc⟩)⟩
theorem VRel.map_inv {a : Nat} (h : VRel r (.map (some a)) v') : ∃ b, v' = .map (some b) ∧ r.rel a b := by
  cases h with
  | atom _ h => simp [isAtom] at h
  | map a b h => exact ⟨b, rfl, h⟩
theorem VRel.nilmap_inv (h : VRel r (.map none) v') : v' = .map none := by cases h; rfl
theorem VRel.nilFunc_inv (h : VRel r .nilFunc v') : v' = .nilFunc := by cases h; rfl
theorem VRel.nilIface_inv (h : VRel r .nilIface v') : v' = .nilIface := by cases h; rfl
theorem VRel.iface_inv {t : TypeId} {v : Value} (h : VRel r (.iface t v) v') : ∃ u, v' = .iface t u ∧ VRel r v u := by
  cases h with
  | atom _ h => simp [isAtom] at h
  | iface t v v' h => exact ⟨v', rfl, h⟩
theorem VRel.func_inv {fn : Fn} {first as : Array Value} (h : VRel r (.func fn first as) v') : ∃ f bs, fn = .func f ∧ first = #[] ∧ v' = .func (.func f) #[] bs ∧ LRel r as.toList bs.toList := by
  cases h with
  | atom _ h => simp [isAtom] at h
  | func f as bs h hh => exact ⟨f, bs, rfl, rfl, rfl, .of_arrays h hh⟩
theorem VRel.agg_inv {as : Array Value} (h : VRel r (.agg as) v') : ∃ bs, v' = .agg bs ∧ LRel r as.toList bs.toList := by
  cases h with
  | atom _ h => simp [isAtom] at h
  | agg as bs h hh => exact ⟨bs, rfl, .of_arrays h hh⟩
theorem VRel.tuple_inv {as : Array Value} (h : VRel r (.tuple as) v') : ∃ bs, v' = .tuple bs ∧ LRel r as.toList bs.toList := by
  cases h with
  | atom _ h => simp [isAtom] at h
  | tuple as bs h hh => exact ⟨bs, rfl, .of_arrays h hh⟩
end

/-- No name in it (to a depth). -/
def noPtr : Nat → Value → Bool
  | 0, _ => false
  | n + 1, .agg l => l.toList.all (noPtr n)
  | n + 1, .tuple l => l.toList.all (noPtr n)
  | n + 1, .iface _ v => noPtr n v
  | _ + 1, v => isAtom v

theorem LRel.eq_of {r : Ren} {p : Value → Bool} (hp : ∀ v v', VRel r v v' → p v = true → v' = v) : ∀ {l l' : List Value}, LRel r l l' → l.all p = true → l' = l
  | [], l', h, _ => h.nil_left
  | a :: l, l', h, ha => by
    obtain ⟨b, m, rfl, hab, hm⟩ := h.cons_left
    simp only [List.all_cons, Bool.and_eq_true] at ha
    rw [hp _ _ hab ha.1, LRel.eq_of hp hm ha.2]

theorem VRel.eq_of_noPtr {r : Ren} : ∀ (n : Nat) (v v' : Value), VRel r v v' → noPtr n v = true → v' = v
  | 0, _, _, _, h => by simp [noPtr] at h
  | n + 1, v, v', h, hn => by
    cases v with
    | agg as =>
      obtain ⟨bs, rfl, hl⟩ := h.agg_inv
      have := LRel.eq_of (fun v v' h => VRel.eq_of_noPtr n v v' h) hl (by simpa [noPtr] using hn)
      rw [Array.toList_inj.1 this]
    | tuple as =>
      obtain ⟨bs, rfl, hl⟩ := h.tuple_inv
      have := LRel.eq_of (fun v v' h => VRel.eq_of_noPtr n v v' h) hl (by simpa [noPtr] using hn)
      rw [Array.toList_inj.1 this]
    | iface t u =>
      obtain ⟨u', rfl, hu⟩ := h.iface_inv
      rw [VRel.eq_of_noPtr n _ _ hu (by simpa [noPtr] using hn)]
    | _ =>
      cases h <;> first | rfl | (simp [noPtr, isAtom] at hn)

theorem VRel.refl_of_noPtr (r : Ren) : ∀ (n : Nat) (v : Value), noPtr n v = true → VRel r v v
  | 0, _, h => by simp [noPtr] at h
  | n + 1, v, hn => by
    cases v with
    | agg as =>
      have h : as.toList.all (noPtr n) = true := by simpa [noPtr] using hn
      refine .agg _ _ rfl fun i ha _ => VRel.refl_of_noPtr r n _ (List.all_eq_true.1 h _ ?_)
      exact Array.getElem_mem_toList ha
    | tuple as =>
      have h : as.toList.all (noPtr n) = true := by simpa [noPtr] using hn
      refine .tuple _ _ rfl fun i ha _ => VRel.refl_of_noPtr r n _ (List.all_eq_true.1 h _ ?_)
      exact Array.getElem_mem_toList ha
    | iface t u => exact .iface t u u (VRel.refl_of_noPtr r n u (by simpa [noPtr] using hn))
    | _ => exact .atom _ (by simpa [noPtr] using hn)

/-! ### Objects, worlds -/
def entryRel (r : Ren) (e e' : MapEntry) : Prop := e'.key = e.key ∧ e'.born = e.born ∧ VRel r e.val e'.val ∧ noPtr 8 e.key = true

inductive ORel (r : Ren) (b : Nat) : AObj → Obj → Prop
  | cells (c : List Value) (c' : Array Value) (e : TypeId) (fz : Nat × Nat) (hl : c.length ≤ c'.size) (hf : r.ro b ∨ (fz.1 < fz.2 → c'.size ≤ fz.1)) (hb : r.bs b = c'.size)
      (h : LRel r c (c'.toList.take c.length)) : ORel r b (.cells c e) (.cells c' e fz)
  | map (es : List MapEntry) (es' : Array MapEntry) (clock : Nat) (hl : es.length = es'.size) (h : ∀ i (hi : i < es.length) (hi' : i < es'.size), entryRel r es[i] es'[i]) :
      ORel r b (.map es clock) (.map es' clock)
  | iter (s : ByteArray) (pos : Nat) : ORel r b (.iter s pos) (.stringIter s pos)

theorem ORel.mono {r r' : Ren} (hr : r.le r') {n b : Nat} (hn : r.rel n b) {o : AObj} {o' : Obj} (h : ORel r b o o') : ORel r' b o o' := by
  cases h with
  | cells c c' e fz hl hf hb h => exact .cells c c' e fz hl (by rw [hr.ro]; exact hf) (by rw [hr.bs _ _ hn]; exact hb) (h.mono hr)
  | map es es' clock hl h => exact .map es es' clock hl fun i hi hi' => ⟨(h i hi hi').1, (h i hi hi').2.1, (h i hi hi').2.2.1.mono hr, (h i hi hi').2.2.2⟩
  | iter s pos => exact .iter s pos

structure WRel (r : Ren) (σ : AHeap) (w : World) : Prop where
  small : σ.next ≤ MAXN + 1
  lt : ∀ n b, r.rel n b → n < σ.next ∧ b < w.heap.size
  fn : ∀ n b b', r.rel n b → r.rel n b' → b = b'
  inj : ∀ n m b, σ.get n ≠ none → σ.get m ≠ none → r.rel n b → r.rel m b → n = m ∨ r.ro b
  obj : ∀ n o, σ.get n = some o → ∃ b o', r.rel n b ∧ w.heap[b]? = some o' ∧ ORel r b o o'
  glob : ∀ g, g < σ.glob → r.rel g g
  top : ∀ n, σ.next ≤ n → σ.t.get n = none
  wr : ∀ n b, r.rel n b → σ.lim ≤ n → ¬ r.ro b
  rob : ∀ b, r.ro b → b < w.heap.size

/-- From one pair to a later one: what a run does. -/
structure Step (r : Ren) (σ : AHeap) (w : World) (r' : Ren) (σ' : AHeap) (w' : World) : Prop where
  le : r.le r'
  fresh : ∀ n b, r'.rel n b → r.rel n b ∨ (σ.next ≤ n ∧ (w.heap.size ≤ b ∨ ∃ m, r.rel m b ∧ σ.get m ≠ none ∧ σ.lim ≤ m))
  rel : WRel r' σ' w'
  size : w.heap.size ≤ w'.heap.size
  frame : ∀ b, b < w.heap.size → (∀ n, r.rel n b → σ.get n = none ∨ n < σ.lim) → w'.heap[b]? = w.heap[b]?
  dead : ∀ n, n < σ.next → σ.get n = none → σ'.get n = none
  keep : ∀ n, n < σ.lim → n < σ.next → σ'.get n = σ.get n
  next : σ.next ≤ σ'.next
  lim : σ'.lim = σ.lim
  hid : σ'.hid = σ.hid
  gl : σ'.glob = σ.glob
  os : w'.os = w.os
  tape : w'.tape = w.tape
  output : w'.output = w.output

theorem Step.refl {r : Ren} {σ : AHeap} {w : World} (h : WRel r σ w) : Step r σ w r σ w :=
  ⟨.refl r, fun _ _ h => .inl h, h, Nat.le_refl _, fun _ _ _ => rfl, fun _ _ h => h, fun _ _ _ => rfl, Nat.le_refl _, rfl, rfl, rfl, rfl, rfl, rfl⟩

theorem Step.trans {r r1 r2 : Ren} {σ σ1 σ2 : AHeap} {w w1 w2 : World} (h0 : WRel r σ w) (h : Step r σ w r1 σ1 w1) (k : Step r1 σ1 w1 r2 σ2 w2) : Step r σ w r2 σ2 w2 where
  le := h.le.trans k.le
  fresh := fun n b hn => by
    rcases k.fresh n b hn with h1 | ⟨h1, h2⟩
    · exact h.fresh n b h1
    · rcases h2 with h2 | ⟨m, hm, hg, hl⟩
      · exact .inr ⟨Nat.le_trans h.next h1, .inl (Nat.le_trans h.size h2)⟩
      · rcases h.fresh m b hm with h3 | ⟨_, h4⟩
        · exact .inr ⟨Nat.le_trans h.next h1, .inr ⟨m, h3, fun hn => hg (h.dead m (h0.lt m b h3).1 hn), h.lim ▸ hl⟩⟩
        · exact .inr ⟨Nat.le_trans h.next h1, h4⟩
  rel := k.rel
  size := Nat.le_trans h.size k.size
  frame := fun b hb hd => by
    rw [k.frame b (Nat.lt_of_lt_of_le hb h.size) ?_, h.frame b hb hd]
    intro n hn
    rcases h.fresh n b hn with h1 | ⟨_, h2 | ⟨m, h3, h4, h5⟩⟩
    · rcases hd n h1 with h6 | h6
      · exact .inl (h.dead n (h0.lt n b h1).1 h6)
      · exact .inr (by rw [h.lim]; exact h6)
    · omega
    · rcases hd m h3 with h6 | h6
      · exact absurd h6 h4
      · omega
  dead := fun n hn hd => k.dead n (Nat.lt_of_lt_of_le hn h.next) (h.dead n hn hd)
  keep := fun n hl hn => by rw [k.keep n (by rw [h.lim]; exact hl) (Nat.lt_of_lt_of_le hn h.next), h.keep n hl hn]
  next := Nat.le_trans h.next k.next
  lim := k.lim.trans h.lim
  hid := k.hid.trans h.hid
  gl := k.gl.trans h.gl
  os := k.os.trans h.os
  tape := k.tape.trans h.tape
  output := k.output.trans h.output

/-- A world that differs by draws alone. -/
theorem WRel.world {r : Ren} {σ : AHeap} {w w' : World} (h : WRel r σ w) (he : w'.heap = w.heap) : WRel r σ w' :=
  ⟨h.small, fun n b hn => by rw [he]; exact h.lt n b hn, h.fn, h.inj, fun n o ho => by rw [he]; exact h.obj n o ho, h.glob, h.top, h.wr, fun b hb => by rw [he]; exact h.rob b hb⟩

theorem Step.drew {r : Ren} {σ : AHeap} {w : World} (h : WRel r σ w) (d : Nat) : Step r σ w r σ { w with drawn := d } :=
  ⟨.refl r, fun _ _ h => .inl h, h.world rfl, Nat.le_refl _, fun _ _ _ => rfl, fun _ _ h => h, fun _ _ _ => rfl, Nat.le_refl _, rfl, rfl, rfl, rfl, rfl, rfl⟩

end Go.Abs
