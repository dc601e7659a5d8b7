/- A21: words for states that are written out: frames, heaps, parts of a body. General over the program. -/
import Derived.Test.YtcadfopmadjanaaA20
namespace Go.Abs
set_option linter.unusedVariables false

/-- A frame of n places of which these are known. -/
def frame (n : Nat) (l : List (Nat × Value)) : List Value := (List.range n).map fun i => (l.find? fun q => Nat.beq q.1 i).elim poison (·.2)
def treeOf : Nat → List (Option AObj) → Tree
  | _, [] => .nil
  | i, q :: l => (treeOf (i + 1) l).set 64 i q
/-- A heap of these objects; names below 'lim' are only read. -/
def heapOf (lim : Nat) (L : List (Option AObj)) : AHeap := ⟨treeOf 0 L, L.length, lim, [], 0, [], []⟩

/-- A part of a body: 0: the left one or the only one; 1: the right one. -/
def Code.part : List Nat → Code → Code
  | [], c => c
  | 0 :: l, .seq a _ => Code.part l a
  | _ :: l, .seq _ b => Code.part l b
  | 0 :: l, .cond _ a _ => Code.part l a
  | _ :: l, .cond _ _ b => Code.part l b
  | _ :: l, .block _ b => Code.part l b
  | _ :: l, .loop b => Code.part l b
  | _, c => c
def bodyOf (f : Func) : Code := f.body.getD .skip

/-- The first n of a row of codes, and what stands behind them. -/
def itemsC : Nat → Code → List Code
  | n + 1, .seq a b => a :: itemsC n b
  | _, _ => []
def restC : Nat → Code → Code
  | n + 1, .seq _ b => restC n b
  | _, c => c
def seqs : List Code → Code → Code
  | [], d => d
  | c :: l, d => .seq c (seqs l d)
theorem seqs_items : ∀ (n : Nat) (c : Code), seqs (itemsC n c) (restC n c) = c
  | 0, c => by cases c <;> rfl
  | n + 1, c => by
    cases c with
    | seq a b => simp only [itemsC, restC, seqs, seqs_items n b]
    | _ => rfl

def absCodes (P : Program) (call : Caller) (n : Nat) : List Code → List Value → AHeap → Option (Out × List Value × AHeap)
  | [], τ, σ => some (.normal, τ, σ)
  | c :: l, τ, σ => match absCode P call n c τ σ with
    | some (.normal, τ, σ) => absCodes P call n l τ σ
    | _ => none
theorem codes_astep {P : Program} {call : Caller} (hc : CallA call) {n : Nat} : ∀ (l : List Code) (τ τ' : List Value) (σ σ' : AHeap) (out : Out), absCodes P call n l τ σ = some (out, τ', σ') → out = .normal ∧ AStep σ σ'
  | [], τ, τ', σ, σ', out, h => by
    simp only [absCodes, Option.some.injEq, Prod.mk.injEq] at h
    obtain ⟨rfl, _, rfl⟩ := h
    exact ⟨rfl, .refl _⟩
  | c :: l, τ, τ', σ, σ', out, h => by
    simp only [absCodes] at h
    split at h
    · rename_i t s hc1
      have h1 := code_astep hc n c _ _ _ _ _ hc1
      have h2 := codes_astep hc l _ _ _ _ _ h
      exact ⟨h2.1, h1.trans h2.2⟩
    · simp at h
/-- A run of the first ones. -/
def runF (P : Program) (call : Caller) (n : Nat) (l : List Code) (ks : List Bool) (hs : List (Option Bool)) (τ : List Value) (σ : AHeap) : Option (List Value × AHeap × Bool) :=
  match absCodes P call n l τ { σ with hints := hs, obl := [] } with
  | some (_, t, s) => some (maskL ks t, { s with hints := [], obl := [] }, s.obl.all id)
  | none => none

theorem Shows.codes {P : Program} {call : Caller} (G : Good P call) {n : Nat} {d : Code} {R : Out → List Value → AHeap → Prop} : ∀ (l : List Code) (τ τ' : List Value) (σ σ' : AHeap) (out : Out), absCodes P call n l τ σ = some (out, τ', σ') → okObl σ' →
    Shows P d τ' σ' R → Shows P (seqs l d) τ σ R
  | [], τ, τ', σ, σ', out, h, _, k => by
    simp only [absCodes, Option.some.injEq, Prod.mk.injEq] at h
    obtain ⟨_, rfl, rfl⟩ := h
    exact k
  | c :: l, τ, τ', σ, σ', out, h, hob, k => by
    simp only [absCodes] at h
    split at h
    · rename_i t s hc1
      have ih := Shows.codes G l _ _ _ _ _ h hob k
      have ho1 : okObl s := ((codes_astep G.st l _ _ _ _ _ h).2).obl hob
      intro r w a hw ht Q hq
      refine wp_seq ((code_ok G.num G.ok G.st G.mixed n c _ _ _ _ _ hc1 ho1 r w a hw ht _ ?_).1)
      intro r1 w1 a1 hs ht1 hd
      exact ih r1 w1 a1 hs.rel ht1 Q fun o t s ho => (hq o t s ho).step hw hs hd
    · simp at h

theorem Shows.weak {P : Program} {c : Code} {τ : List Value} {σ : AHeap} {R : Out → List Value → AHeap → Prop} (ks : List Bool) (h : Shows P c (maskL ks τ) σ R) : Shows P c τ σ R :=
  fun r w a hw ht Q hq => h r w a hw (maskL_rel ks ht) Q hq

/-- The first n codes are run; then it goes on from there. -/
theorem Shows.first {P : Program} {call : Caller} (G : Good P call) (k : Nat) {n : Nat} {c : Code} {ks : List Bool} {hs : List (Option Bool)} {τ τ' : List Value} {σ σ' : AHeap} {obl : Bool} {R : Out → List Value → AHeap → Prop}
    (h : runF P call n (itemsC k c) ks hs τ σ = some (τ', σ', obl)) (hob : obl = true) (hn : Shows P (restC k c) τ' σ' R) : Shows P c τ σ R := by
  unfold runF at h
  split at h
  · rename_i o t s hc
    simp only [Option.some.injEq, Prod.mk.injEq] at h
    obtain ⟨rfl, rfl, rfl⟩ := h
    have e := seqs_items k c
    rw [← e]
    refine Shows.eqH (σ2 := { σ with hints := hs, obl := [] }) ⟨rfl, rfl, rfl, rfl, rfl⟩ ?_
    refine Shows.codes G _ _ _ _ _ _ hc hob ?_
    refine Shows.eqH (σ2 := { s with hints := [], obl := [] }) ⟨rfl, rfl, rfl, rfl, rfl⟩ (Shows.weak ks hn)
  · simp at h
end Go.Abs
