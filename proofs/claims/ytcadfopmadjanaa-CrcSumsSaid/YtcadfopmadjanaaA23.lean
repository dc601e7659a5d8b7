/- A23: functions of plain values and rows, of which the contract is known, as oracles. General over the program. -/
import Derived.Test.YtcadfopmadjanaaA22
namespace Go.Abs
open Go.RowKit
set_option linter.unusedVariables false
set_option linter.unusedSimpArgs false

inductive RArg where
  | plain (v : Value)
  | row (n : Nat) (cs : List Value)

/-- A row as the abstract heap has it (k cells to an element), and what is asked. -/
def rowOf (σ : AHeap) (k : Nat) (v : Value) : Option (RArg × Bool) :=
  match v with
  | .slice none 0 _ => some (.row 0 [], true)
  | .slice (some a) n cap =>
    bif Nat.beq cap UNK3 then some (.row n [], Nat.beq n 0) else
    bif Nat.beq cap UNK2 then some (.row n [], Nat.beq n 0) else
    match σ.get a.block with
    | some (.cells c _) =>
      bif Nat.ble UNK cap then bif Nat.beq cap (UNK + k) && Nat.blt k UNK then some (.row n ((c.drop a.off).take (n * k)), Nat.ble (a.off + n * k) c.length && ((c.drop a.off).take (n * k)).all (noPtr 8)) else none
      else some (.row n ((c.drop a.off).take (n * k)), Nat.ble n cap && Nat.ble (a.off + cap * k) c.length && ((c.drop a.off).take (n * k)).all (noPtr 8))
    | _ => none
  | _ => none

theorem rowOf_ok {r : Ren} {σ : AHeap} {w : World} (h : WRel r σ w) {k : Nat} {v v' : Value} (hv : VRel r v v') {q : RArg} {B : Bool} (ho : rowOf σ k v = some (q, B)) (hB : B = true) :
    ∃ n cs, q = .row n cs ∧ IsRowV w k n cs v' := by
  subst hB
  unfold rowOf at ho
  split at ho
  · simp only [Option.some.injEq, Prod.mk.injEq] at ho
    obtain ⟨rfl, _⟩ := ho
    obtain rfl := hv.nilslice_inv
    exact ⟨0, [], rfl, by simp, .inl ⟨rfl, _, _, rfl⟩⟩
  · rename_i a n cap
    by_cases h3 : cap = UNK3
    · rw [beq_of h3, cond_true] at ho
      simp only [Option.some.injEq, Prod.mk.injEq] at ho
      obtain ⟨rfl, hn⟩ := ho
      obtain rfl := Nat.eq_of_beq_eq_true hn
      obtain ⟨s, c', rfl⟩ := hv.slice_shape
      exact ⟨0, [], rfl, by simp, .inl ⟨rfl, _, _, rfl⟩⟩
    rw [beq_ne h3, cond_false] at ho
    by_cases h2 : cap = UNK2
    · rw [beq_of h2, cond_true] at ho
      simp only [Option.some.injEq, Prod.mk.injEq] at ho
      obtain ⟨rfl, hn⟩ := ho
      obtain rfl := Nat.eq_of_beq_eq_true hn
      obtain ⟨s, c', rfl⟩ := hv.slice_shape
      exact ⟨0, [], rfl, by simp, .inl ⟨rfl, _, _, rfl⟩⟩
    rw [beq_ne h2, cond_false] at ho
    obtain ⟨b, o', c', rfl, _, hr, hcs⟩ := hv.slice_inv (fun e => h3 e.2)
    split at ho
    · rename_i c e hg
      obtain ⟨b', ob, hb', hw, hor⟩ := h.obj _ _ hg
      obtain rfl := h.fn _ _ _ hr hb'
      cases hor with
      | cells c c2 e fz hlen hf hbs hcr =>
        -- what both ways need
        have go : ∀ (hle : a.off + n * k ≤ c.length) (hall : ((c.drop a.off).take (n * k)).all (noPtr 8) = true), ((c.drop a.off).take (n * k)).length = n * k ∧
            ∀ (j : Nat) (u : Value), ((c.drop a.off).take (n * k))[j]? = some u → noPtr 8 u = true ∧ c2[a.off + j]? = some u := by
          intro hle hall
          refine ⟨by simp; omega, fun j u hu => ?_⟩
          have hnp := List.all_eq_true.1 hall u (List.mem_of_getElem? hu)
          refine ⟨hnp, ?_⟩
          rw [List.getElem?_take] at hu
          split at hu
          · rename_i hj
            rw [List.getElem?_drop] at hu
            obtain ⟨u', hu', hr'⟩ := hcr.get hu
            rw [List.getElem?_take] at hu'
            split at hu'
            · rw [Array.getElem?_toList] at hu'
              rw [hu', VRel.eq_of_noPtr 8 _ _ hr' hnp]
            · simp at hu'
          · simp at hu
        by_cases hU : UNK ≤ cap
        · rw [show Nat.ble UNK cap = true by simpa [Nat.ble_eq] using hU, cond_true] at ho
          cases hck : (Nat.beq cap (UNK + k) && Nat.blt k UNK) with
          | false => rw [hck, cond_false] at ho; simp at ho
          | true =>
            rw [hck, cond_true] at ho
            simp only [Option.some.injEq, Prod.mk.injEq] at ho
            obtain ⟨rfl, hB⟩ := ho
            simp only [Bool.and_eq_true, Nat.ble_eq, Nat.beq_eq, Nat.blt_eq] at hB hck
            obtain ⟨g1, g2⟩ := go hB.1 hB.2
            refine ⟨n, _, rfl, g1, ?_⟩
            rcases hcs with ⟨_, _, h7⟩ | ⟨_, h7⟩ | ⟨k', hk', rfl, hk, h5, h6⟩
            · omega
            · exact absurd h7 h2
            · obtain rfl : k' = k := by omega
              by_cases hn : n = 0
              · subst hn; exact .inl ⟨rfl, _, _, rfl⟩
              · exact .inr ⟨by omega, ⟨b, a.off, none⟩, c', c2, e, fz, rfl, rfl, hw, h5, by rw [← hbs]; exact h6, g2⟩
        · rw [show Nat.ble UNK cap = false by cases hb : Nat.ble UNK cap with
            | false => rfl
            | true => exact absurd (by simpa [Nat.ble_eq] using hb) hU, cond_false] at ho
          simp only [Option.some.injEq, Prod.mk.injEq] at ho
          obtain ⟨rfl, hB⟩ := ho
          simp only [Bool.and_eq_true, Nat.ble_eq] at hB
          obtain ⟨⟨hB1, hB2⟩, hB3⟩ := hB
          have hle : a.off + n * k ≤ c.length := by
            have : n * k ≤ cap * k := Nat.mul_le_mul_right k hB1
            omega
          obtain ⟨g1, g2⟩ := go hle hB3
          refine ⟨n, _, rfl, g1, ?_⟩
          rcases hcs with ⟨rfl, rfl, h7⟩ | ⟨_, h7⟩ | ⟨k', hk', rfl, hk, h5, h6⟩
          · by_cases hn : n = 0
            · subst hn; exact .inl ⟨rfl, _, _, rfl⟩
            · exact .inr ⟨by omega, ⟨b, a.off, none⟩, c', c2, e, fz, rfl, rfl, hw, hB1, by show a.off + c' * k ≤ _; omega, g2⟩
          · exact absurd h7 h2
          · omega
    · simp at ho
  · simp at ho

/-- The arguments, each plain (none) or a row of so many cells to an element. -/
def resolveL (σ : AHeap) : List (Option Nat) → List Value → Option (List RArg × Bool)
  | [], [] => some ([], true)
  | none :: ks, v :: vs => bif noPtr 8 v then (resolveL σ ks vs).map fun q => (.plain v :: q.1, q.2) else none
  | some k :: ks, v :: vs => match rowOf σ k v, resolveL σ ks vs with
    | some (a, B), some q => some (a :: q.1, B && q.2)
    | _, _ => none
  | _, _ => none
/-- What the actual arguments are. -/
def RRel (w : World) : List (Option Nat) → List RArg → List Value → Prop
  | [], [], [] => True
  | none :: ks, .plain v :: qs, v' :: vs => v' = v ∧ RRel w ks qs vs
  | some k :: ks, .row n cs :: qs, v' :: vs => IsRowV w k n cs v' ∧ RRel w ks qs vs
  | _, _, _ => False

theorem resolve_ok {r : Ren} {σ : AHeap} {w : World} (h : WRel r σ w) : ∀ {ks : List (Option Nat)} {vs vs' : List Value} {qs : List RArg} {B : Bool}, LRel r vs vs' → resolveL σ ks vs = some (qs, B) → B = true → RRel w ks qs vs'
  | [], [], vs', qs, B, hl, he, hB => by
    simp only [resolveL, Option.some.injEq, Prod.mk.injEq] at he
    obtain ⟨rfl, _⟩ := he
    rw [hl.nil_left]; trivial
  | [], v :: vs, vs', qs, B, hl, he, hB => by simp [resolveL] at he
  | none :: ks, [], vs', qs, B, hl, he, hB => by simp [resolveL] at he
  | some k :: ks, [], vs', qs, B, hl, he, hB => by simp [resolveL] at he
  | none :: ks, v :: vs, vs', qs, B, hl, he, hB => by
    obtain ⟨u, m, rfl, hv, hm⟩ := hl.cons_left
    simp only [resolveL] at he
    cases hn : noPtr 8 v with
    | false => rw [hn, cond_false] at he; simp at he
    | true =>
      rw [hn, cond_true] at he
      obtain ⟨⟨qs', B'⟩, h1, e⟩ := Option.map_eq_some_iff.1 he
      simp only [Prod.mk.injEq] at e
      obtain ⟨rfl, rfl⟩ := e
      exact ⟨VRel.eq_of_noPtr 8 _ _ hv hn, resolve_ok h hm h1 hB⟩
  | some k :: ks, v :: vs, vs', qs, B, hl, he, hB => by
    obtain ⟨u, m, rfl, hv, hm⟩ := hl.cons_left
    simp only [resolveL] at he
    split at he
    · rename_i a B1 q h1 h2
      simp only [Option.some.injEq, Prod.mk.injEq] at he
      obtain ⟨rfl, rfl⟩ := he
      simp only [Bool.and_eq_true] at hB
      obtain ⟨n, cs, rfl, hrow⟩ := rowOf_ok h hv h1 hB.1
      obtain ⟨qs', B'⟩ := q
      exact ⟨hrow, resolve_ok h hm h2 hB.2⟩
    · simp at he

/-- An answer by plain values and rows. -/
def rowOra (ks : List (Option Nat)) (g : List RArg → Option (Value × Bool)) : List Value → AHeap → Option (Value × AHeap) := fun args σ =>
  match resolveL σ ks args with
  | some (qs, B) => (g qs).map fun p => (p.1, σ.oblige (B && p.2))
  | none => none
def RowOK (P : Program) (f : FuncId) (ks : List (Option Nat)) (g : List RArg → Option (Value × Bool)) : Prop :=
  ∀ qs v, g qs = some (v, true) → ∀ w (args' : Array Value), RRel w ks qs args'.toList → Calls P f args' w fun e w' => ∃ v', e = .returned v' ∧ (∀ r, VRel r v v') ∧ Below w.heap.size w w'

theorem rowOra_ok {P : Program} {f : FuncId} {ks : List (Option Nat)} {g : List RArg → Option (Value × Bool)} (h : RowOK P f ks g) :
    CallOK P (fun k args σ => if k = f then rowOra ks g args σ else none) ∧ ∀ args σ v σ', rowOra ks g args σ = some (v, σ') → AStep σ σ' := by
  refine ⟨fun k args σ v σ' hc hob r w args' hw hargs => ?_, fun args σ v σ' hc => ?_⟩
  · have hc : (if k = f then rowOra ks g args σ else none) = some (v, σ') := hc
    by_cases hf : k = f
    · subst hf
      rw [if_pos rfl] at hc
      unfold rowOra at hc
      split at hc
      · rename_i qs B hq
        obtain ⟨⟨u, B'⟩, hu, e⟩ := Option.map_eq_some_iff.1 hc
        simp only [Prod.mk.injEq] at e
        obtain ⟨rfl, rfl⟩ := e
        have hb := okObl.oblige hob
        simp only [Bool.and_eq_true] at hb
        obtain ⟨⟨rfl, rfl⟩, hob'⟩ := hb
        refine Calls.mono (h qs u hu w args' (resolve_ok hw hargs hq rfl)) ?_
        rintro e w' ⟨v', rfl, hv, hbl⟩
        exact ⟨v', r, rfl, (Step.of_below hw hbl).same (.oblige _ _), hv r⟩
      · simp at hc
    · rw [if_neg hf] at hc; simp at hc
  · unfold rowOra at hc
    split at hc
    · obtain ⟨⟨u, B'⟩, hu, e⟩ := Option.map_eq_some_iff.1 hc
      simp only [Prod.mk.injEq] at e
      obtain ⟨rfl, rfl⟩ := e
      exact (AStep.refl _).oblige _
    · simp at hc

/-- Oracles of both kinds. -/
abbrev OraFn := List Value → AHeap → Option (Value × AHeap)
def FnOK (P : Program) (f : FuncId) (g : OraFn) : Prop := CallOK P (fun k args σ => if k = f then g args σ else none) ∧ ∀ args σ v σ', g args σ = some (v, σ') → AStep σ σ'
def oras : List (FuncId × OraFn) → Oracle
  | [] => noOra
  | (k, g) :: l => fun f => bif Nat.beq f k then some g else oras l f
theorem oras_ok {P : Program} : ∀ (l : List (FuncId × OraFn)), (∀ q ∈ l, FnOK P q.1 q.2) → OraOK P (oras l)
  | [], _ => noOra_ok P
  | (k, g) :: l, h => fun f g' hf => by
    simp only [oras] at hf
    cases hb : Nat.beq f k with
    | true =>
      rw [hb, cond_true] at hf
      obtain rfl := Option.some.inj hf
      obtain rfl := Nat.eq_of_beq_eq_true hb
      exact h (f, g) (by simp)
    | false =>
      rw [hb, cond_false] at hf
      exact oras_ok l (fun q hq => h q (by simp [hq])) f g' hf
end Go.Abs
