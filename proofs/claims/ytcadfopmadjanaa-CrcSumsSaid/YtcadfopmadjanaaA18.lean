/- A18: what a run of the abstract machine says of a call with plain arguments: the words a proof uses. General over the program. -/
import Derived.Test.YtcadfopmadjanaaA17
namespace Go.Abs
open Go.RowKit
set_option linter.unusedVariables false
set_option linter.unusedSimpArgs false

abbrev Oracle := FuncId → Option (List Value → AHeap → Option (Value × AHeap))
/-- The empty heap. -/
def h0 : AHeap := ⟨.nil, 0, 0, [], 0, [], []⟩
def ren0 : Ren := ⟨fun _ _ => False, fun _ => 0, fun _ => False⟩
theorem Tree.get_nil' (k : Nat) : Tree.nil.get k = none := rfl
theorem rel0 (w : World) : WRel ren0 h0 w where
  small := Nat.zero_le _
  lt := fun _ _ h => h.elim
  fn := fun _ _ _ h => h.elim
  inj := fun _ _ _ _ _ h => h.elim
  obj := fun n o h => by simp [AHeap.get, h0, hidden, Tree.get_nil'] at h
  glob := fun g h => by simp [h0] at h
  top := fun n _ => rfl
  wr := fun _ _ h => h.elim
  rob := fun _ h => h.elim

def noOra : Oracle := fun _ => none
theorem noOra_ok (P : Program) : OraOK P noOra := fun _ _ h => by simp [noOra] at h

theorem Step.below {r r' : Ren} {σ σ' : AHeap} {w w' : World} (h : Step r σ w r' σ' w') (hd : ∀ n b, r.rel n b → σ.get n = none ∨ n < σ.lim) : Below w.heap.size w w' :=
  ⟨h.os, h.tape, h.output, h.size, fun k hk => h.frame k hk fun n hn => hd n k hn⟩

theorem pure_calls {P : Program} {ora : Oracle} (ho : OraOK P ora) (hN : NoNum P) (hm : P.follows .mixedOrders = true) {n : Nat} {f : FuncId} {args : List Value} {v : Value} {σ' : AHeap}
    (h : absCall P ora n f args h0 = some (v, σ')) (hob : okObl σ') (ha : args.all (noPtr 8) = true) (w : World) :
    Calls P f args.toArray w fun e w' => ∃ v' r', e = .returned v' ∧ VRel r' v v' ∧ Below w.heap.size w w' := by
  refine Calls.mono (abs_ok ho hN hm n f args h0 v σ' h hob ren0 w args.toArray (rel0 w) ?_) ?_
  · refine ⟨by simp, fun i a b ha' hb => ?_⟩
    have hb : args[i]? = some b := by simpa using hb
    rw [ha'] at hb
    obtain rfl := Option.some.inj hb
    exact VRel.refl_of_noPtr ren0 8 a (List.all_eq_true.1 ha _ (List.mem_of_getElem? ha'))
  · rintro e w' ⟨v', r', rfl, hs, hv⟩
    exact ⟨v', r', rfl, hv, hs.below fun _ _ h => h.elim⟩

/-- The same, of a result in which no name and no unknown is. -/
theorem plain_calls {P : Program} {ora : Oracle} (ho : OraOK P ora) (hN : NoNum P) (hm : P.follows .mixedOrders = true) {n : Nat} {f : FuncId} {args : List Value} {v : Value} {σ' : AHeap}
    (h : absCall P ora n f args h0 = some (v, σ')) (hob : okObl σ') (ha : args.all (noPtr 8) = true) (hv : noPtr 8 v = true) (w : World) :
    Calls P f args.toArray w fun e w' => e = .returned v ∧ Below w.heap.size w w' := by
  refine Calls.mono (pure_calls ho hN hm h hob ha w) ?_
  rintro e w' ⟨v', r', rfl, hr, hb⟩
  exact ⟨by rw [VRel.eq_of_noPtr 8 _ _ hr hv], hb⟩

/-- A run's answer, if all that was noted is so. -/
def out? : Option (Value × AHeap) → Option Value
  | some (v, σ) => bif σ.obl.all id then some v else none
  | none => none
theorem out?_some {o : Option (Value × AHeap)} {v : Value} (h : out? o = some v) : ∃ σ, o = some (v, σ) ∧ okObl σ := by
  unfold out? at h
  split at h
  · rename_i u σ
    cases hb : σ.obl.all id with
    | true => rw [hb, cond_true] at h; obtain rfl := Option.some.inj h; exact ⟨σ, rfl, hb⟩
    | false => rw [hb, cond_false] at h; simp at h
  · simp at h
theorem plain_calls' {P : Program} {ora : Oracle} (ho : OraOK P ora) (hN : NoNum P) (hm : P.follows .mixedOrders = true) {n : Nat} {f : FuncId} {args : List Value} {v : Value}
    (h : out? (absCall P ora n f args h0) = some v) (ha : args.all (noPtr 8) = true) (hv : noPtr 8 v = true) (w : World) :
    Calls P f args.toArray w fun e w' => e = .returned v ∧ Below w.heap.size w w' := by
  obtain ⟨σ', hc, hob⟩ := out?_some h
  exact plain_calls ho hN hm hc hob ha hv w
theorem pure_calls' {P : Program} {ora : Oracle} (ho : OraOK P ora) (hN : NoNum P) (hm : P.follows .mixedOrders = true) {n : Nat} {f : FuncId} {args : List Value} {v : Value}
    (h : out? (absCall P ora n f args h0) = some v) (ha : args.all (noPtr 8) = true) (w : World) :
    Calls P f args.toArray w fun e w' => ∃ v' r', e = .returned v' ∧ VRel r' v v' ∧ Below w.heap.size w w' := by
  obtain ⟨σ', hc, hob⟩ := out?_some h
  exact pure_calls ho hN hm hc hob ha w

/-- What is closed of a program: no function with a body is 'runtime.NumGoroutine'. -/
def noNumB (P : Program) : Bool := P.funcs.toList.all fun fn => !fn.body.isSome || !(fn.name == "runtime.NumGoroutine")
theorem noNum_of {P : Program} (h : noNumB P = true) : NoNum P := by
  intro f fn hf hb
  have hmem : fn ∈ P.funcs.toList := by
    rw [← Array.getElem?_toList] at hf
    exact List.mem_of_getElem? hf
  have := List.all_eq_true.1 h fn hmem
  rw [hb] at this
  simpa using this

/-! ### Oracles: functions of plain values whose contract is known -/
/-- A world that has new blocks behind the old ones. -/
theorem Step.of_below {r : Ren} {σ : AHeap} {w w' : World} (h : WRel r σ w) (hb : Below w.heap.size w w') : Step r σ w r σ w' where
  le := .refl r
  fresh := fun _ _ h => .inl h
  rel := ⟨h.small, fun n b hn => ⟨(h.lt n b hn).1, Nat.lt_of_lt_of_le (h.lt n b hn).2 hb.size⟩, h.fn, h.inj, fun n o ho => by
    obtain ⟨b, o', h1, h2, h3⟩ := h.obj n o ho
    exact ⟨b, o', h1, by rw [hb.block b (h.lt n b h1).2]; exact h2, h3⟩, h.glob, h.top, h.wr, fun b hk => Nat.lt_of_lt_of_le (h.rob b hk) hb.size⟩
  size := hb.size
  frame := fun b hk _ => hb.block b hk
  dead := fun _ _ h => h
  keep := fun _ _ _ => rfl
  next := Nat.le_refl _
  lim := rfl
  hid := rfl
  gl := rfl
  os := hb.os
  tape := hb.tape
  output := hb.output

/-- An answer by plain values alone. -/
def plainOra (g : List Value → Option Value) : List Value → AHeap → Option (Value × AHeap) := fun args σ => bif args.all (noPtr 8) then (g args).map fun v => (v, σ) else none
def PlainOK (P : Program) (k : FuncId) (g : List Value → Option Value) : Prop :=
  ∀ args v, g args = some v → ∀ w, Calls P k args.toArray w fun e w' => ∃ v', e = .returned v' ∧ (∀ r, VRel r v v') ∧ Below w.heap.size w w'

theorem plainOra_ok {P : Program} {k : FuncId} {g : List Value → Option Value} (h : PlainOK P k g) :
    CallOK P (fun f args σ => if f = k then plainOra g args σ else none) ∧ ∀ args σ v σ', plainOra g args σ = some (v, σ') → AStep σ σ' := by
  refine ⟨fun f args σ v σ' hc hob r w args' hw hargs => ?_, fun args σ v σ' hc => ?_⟩
  · have hc : (if f = k then plainOra g args σ else none) = some (v, σ') := hc
    by_cases hf : f = k
    · subst hf
      rw [if_pos rfl] at hc
      unfold plainOra at hc
      cases ha : args.all (noPtr 8) with
      | false => rw [ha] at hc; simp at hc
      | true =>
        rw [ha, cond_true] at hc
        obtain ⟨u, hu, e⟩ := Option.map_eq_some_iff.1 hc
        simp only [Prod.mk.injEq] at e
        obtain ⟨rfl, rfl⟩ := e
        have e : args'.toList = args := LRel.eq_of (fun v v' h => VRel.eq_of_noPtr 8 v v' h) hargs ha
        have e : args' = args.toArray := by rw [← e]
        subst e
        refine Calls.mono (h args u hu w) ?_
        rintro e w' ⟨v', rfl, hv, hb⟩
        exact ⟨v', r, rfl, Step.of_below hw hb, hv r⟩
    · rw [if_neg hf] at hc; simp at hc
  · unfold plainOra at hc
    cases ha : args.all (noPtr 8) with
    | false => rw [ha] at hc; simp at hc
    | true =>
      rw [ha, cond_true] at hc
      obtain ⟨u, hu, e⟩ := Option.map_eq_some_iff.1 hc
      simp only [Prod.mk.injEq] at e
      obtain ⟨rfl, rfl⟩ := e
      exact AStep.refl _

def oraList : List (FuncId × (List Value → Option Value)) → Oracle
  | [] => noOra
  | (k, g) :: l => fun f => bif Nat.beq f k then some (plainOra g) else oraList l f

theorem oraList_ok {P : Program} : ∀ (l : List (FuncId × (List Value → Option Value))), (∀ q ∈ l, PlainOK P q.1 q.2) → OraOK P (oraList l)
  | [], _ => noOra_ok P
  | (k, g) :: l, h => fun f g' hf => by
    simp only [oraList] at hf
    cases hb : Nat.beq f k with
    | true =>
      rw [hb, cond_true] at hf
      obtain rfl := Option.some.inj hf
      obtain rfl := Nat.eq_of_beq_eq_true hb
      exact plainOra_ok (h (f, g) (by simp))
    | false =>
      rw [hb, cond_false] at hf
      exact oraList_ok l (fun q hq => h q (by simp [hq])) f g' hf
end Go.Abs
