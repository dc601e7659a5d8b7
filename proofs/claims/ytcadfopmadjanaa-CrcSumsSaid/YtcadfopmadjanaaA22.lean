/- A22: calls with plain answers, out of what a body is shown to end in; functions of rows as oracles. General over the program. -/
import Derived.Test.YtcadfopmadjanaaA21
namespace Go.Abs
open Go.RowKit
set_option linter.unusedVariables false
set_option linter.unusedSimpArgs false

/-- A body ends well, with this answer. -/
def EndsIn (P : Program) (fn : Func) (v : Value) (o : Out) (t : List Value) (s : AHeap) : Prop := (o = .normal ∨ o = .ret) ∧ ∃ l, resultsL P t s fn.results.toList = some l ∧ oneOf l = v

theorem Shows.plain {P : Program} {f : FuncId} {fn : Func} {c : Code} (hf : P.funcs[f]? = some fn) (hb : fn.body = some c) {args : List Value} {σ : AHeap} {v : Value} (hv : noPtr 8 v = true)
    (h : Shows P c (args ++ List.replicate (fn.ntmps - args.length) undef) σ (EndsIn P fn v)) {r : Ren} {w : World} {args' : Array Value} (hw : WRel r σ w) (hargs : LRel r args args'.toList)
    (hd : ∀ n b, r.rel n b → σ.get n = none ∨ n < σ.lim) : Calls P f args' w fun e w' => e = .returned v ∧ Below w.heap.size w w' := by
  refine Calls.mono (Shows.calls hf hb (K := fun u _ => u = v) (h.mono fun o t s ho => ⟨ho.1, by obtain ⟨l, h1, h2⟩ := ho.2; exact ⟨l, h1, h2⟩⟩) r w args' hw hargs) ?_
  rintro e w' ⟨u, v', r', σ', rfl, rfl, hs, hr⟩
  exact ⟨by rw [VRel.eq_of_noPtr 8 _ _ hr hv], hs.below hd⟩

theorem treeE_get (m : Nat) : ∀ (k i : Nat), i + k ≤ 200 → (treeOf i (List.replicate k none)).get m = none
  | 0, i, _ => rfl
  | k + 1, i, h => by
    show ((treeOf (i + 1) (List.replicate k none)).set 64 i none).get m = none
    by_cases hi : m = i
    · subst hi
      exact Tree.get_set_same 64 _ _ _ (by omega)
    · rw [Tree.get_set_other 64 _ _ _ _ hi]; exact treeE_get m k (i + 1) (by omega)
/-- A heap in which the names ahead of 'lim' stand for nothing. -/
theorem relE (n : Nat) (hn : n ≤ 100) (w : World) : WRel ren0 (heapOf n (List.replicate n none)) w where
  small := by have : (100 : Nat) ≤ MAXN := by decide
              show (List.replicate n (none : Option AObj)).length ≤ _; simp; omega
  lt := fun _ _ h => h.elim
  fn := fun _ _ _ h => h.elim
  inj := fun _ _ _ _ _ h => h.elim
  obj := by
    intro m o h
    exfalso
    have : (treeOf 0 (List.replicate n none)).get m = some o := by simpa [AHeap.get, heapOf, hidden] using h
    rw [treeE_get m n 0 (by omega)] at this; simp at this
  glob := fun g h => by simp [heapOf] at h
  top := fun m _ => treeE_get m n 0 (by omega)
  wr := fun _ _ h => h.elim
  rob := fun _ h => h.elim
end Go.Abs
