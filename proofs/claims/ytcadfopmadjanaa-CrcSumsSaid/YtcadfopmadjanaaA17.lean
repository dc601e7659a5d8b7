/- A17: code and calls of the abstract machine; what it finds is what the model's calls come to. General over the program. -/
import Derived.Test.YtcadfopmadjanaaA16
import Derived.LoopN
namespace Go.Abs
set_option linter.unusedVariables false
set_option linter.unusedSimpArgs false

inductive Out where
  | normal
  | exit (id : Nat)
  | ret

def Out.toExit : Out → Exit
  | .normal => .normal
  | .exit id => .exit id
  | .ret => .ret

def absCode (P : Program) (call : Caller) : Nat → Code → List Value → AHeap → Option (Out × List Value × AHeap)
  | 0, _, _, _ => none
  | n + 1, c, τ, σ =>
    match c with
    | .region _ ops draw =>
      match (bif draw then absDraw P call ops τ σ else absOps P call ops ops.toList τ σ) with
      | some (τ, σ) => some (.normal, τ, σ)
      | none => none
    | .seq a b => match absCode P call n a τ σ with
      | some (.normal, τ, σ) => absCode P call n b τ σ
      | r => r
    | .cond c a b => match ev σ.glob τ c with
      | .bool t => match decideB σ t with
        | (t, σ) => bif t then absCode P call n a τ σ else absCode P call n b τ σ
      | _ => none
    | .block id b => match absCode P call n b τ σ with
      | some (.exit id', τ, σ) => bif Nat.beq id' id then some (.normal, τ, σ) else some (.exit id', τ, σ)
      | r => r
    | .loop b => match absCode P call n b τ σ with
      | some (.normal, τ, σ) => absCode P call n (.loop b) τ σ
      | r => r
    | .exit id => some (.exit id, τ, σ)
    | .ret => some (.ret, τ, σ)
    | .skip => some (.normal, τ, σ)
    | .label _ => some (.normal, τ, σ)
    | _ => none

/-- What stands behind a round's end. -/
def InLoopWp (P : Program) (c : Code) (Q : Exit → Act → World → Prop) (a : Act) (w : World) : Prop :=
  ∀ (b : Frame) (k : List Item) (cs : List Frame), ∃ e a' w', Q e a' w' ∧ Arrives P (lone (b.at a (.inLoop c :: k)) cs w) b k cs e a' w'

theorem round_core {P : Program} {c : Code} {Q : Exit → Act → World → Prop} {a : Act} {w : World} (h : c.wp P (Exit.then (InLoopWp P c Q) Q) a w) (b : Frame) (k : List Item) (cs : List Frame) :
    ∃ e a' w', Q e a' w' ∧ Arrives P (lone (b.at a (.code c :: .inLoop c :: k)) cs w) b k cs e a' w' := by
  obtain ⟨e, a₁, w₁, hq, harr⟩ := h b (.inLoop c :: k) cs
  cases e with
  | normal =>
    obtain ⟨e₂, a₂, w₂, hq₂, harr₂⟩ := hq b k cs
    exact ⟨e₂, a₂, w₂, hq₂, .of_steps harr harr₂⟩
  | exit id => exact ⟨_, a₁, w₁, hq, .pass (x := .inLoop c) rfl (fun _ _ => .inl (by simp)) harr⟩
  | goto l => exact ⟨_, a₁, w₁, hq, .pass (x := .inLoop c) rfl (fun _ _ => .inl (by simp)) harr⟩
  | ret => exact ⟨_, a₁, w₁, hq, .pass (x := .inLoop c) rfl (fun _ _ => .inl (by simp)) harr⟩
  | panic ch => exact ⟨_, a₁, w₁, hq, .pass (x := .inLoop c) rfl (fun _ _ => .inl (by simp)) harr⟩
  | outgrown => exact ⟨_, a₁, w₁, hq, .pass (x := .inLoop c) rfl (fun _ _ => .inl (by simp)) harr⟩
theorem inLoop_of {P : Program} {c : Code} {Q : Exit → Act → World → Prop} {a : Act} {w : World} (h : c.wp P (Exit.then (InLoopWp P c Q) Q) a w) : InLoopWp P c Q a w := by
  intro b k cs
  obtain ⟨e, a', w', hq, harr⟩ := round_core h b k cs
  exact ⟨e, a', w', hq, .of_steps (.one step_inLoop) harr⟩
theorem loop_of {P : Program} {c : Code} {Q : Exit → Act → World → Prop} {a : Act} {w : World} (h : c.wp P (Exit.then (InLoopWp P c Q) Q) a w) : (Code.loop c).wp P Q a w := by
  intro b k cs
  obtain ⟨e, a', w', hq, harr⟩ := round_core h b k cs
  exact ⟨e, a', w', hq, .of_steps (.one step_loop) harr⟩

def Post (r : Ren) (σ : AHeap) (w : World) (a : Act) (out : Out) (τ' : List Value) (σ' : AHeap) (Q : Exit → Act → World → Prop) : Prop :=
  ∀ r' w' a', Step r σ w r' σ' w' → TRel r' τ' a' → a'.defers = a.defers → Q out.toExit a' w'

theorem Post.step {r r1 : Ren} {σ σ1 σ' : AHeap} {w w1 : World} {a a1 : Act} {out : Out} {τ' : List Value} {Q : Exit → Act → World → Prop} (hw : WRel r σ w) (h : Post r σ w a out τ' σ' Q) (hs : Step r σ w r1 σ1 w1) (hd : a1.defers = a.defers) : Post r1 σ1 w1 a1 out τ' σ' Q :=
  fun r' w' a' h1 h2 h3 => h r' w' a' (Step.trans hw hs h1) h2 (h3.trans hd)

theorem code_astep {P : Program} {call : Caller} (hc : CallA call) : ∀ (n : Nat) (c : Code) (τ τ' : List Value) (σ σ' : AHeap) (out : Out), absCode P call n c τ σ = some (out, τ', σ') → AStep σ σ'
  | 0, c, τ, τ', σ, σ', out, h => by simp [absCode] at h
  | n + 1, c, τ, τ', σ, σ', out, h => by
    have ih := code_astep (P := P) hc n
    have eqn : ∀ {o1 o2 : Out} {t1 t2 : List Value} {s1 s2 : AHeap}, some (o1, t1, s1) = some (o2, t2, s2) → AStep σ s1 → AStep σ s2 := by
      intro o1 o2 t1 t2 s1 s2 h1 h2
      simp only [Option.some.injEq, Prod.mk.injEq] at h1
      obtain ⟨_, _, rfl⟩ := h1
      exact h2
    cases c with
    | region id ops draw =>
      simp only [absCode] at h
      split at h
      · rename_i τ1 σ1 h1
        refine eqn h ?_
        cases draw with
        | true => exact draw_astep hc h1
        | false => exact ops_astep hc _ _ _ _ _ h1
      · simp at h
    | seq x y =>
      simp only [absCode] at h
      cases hx : absCode P call n x τ σ with
      | none => rw [hx] at h; simp at h
      | some p =>
        obtain ⟨o1, τ1, σ1⟩ := p
        rw [hx] at h
        have h1 := ih x _ _ _ _ _ hx
        cases o1 with
        | normal => exact h1.trans (ih y _ _ _ _ _ h)
        | exit id => exact eqn h h1
        | ret => exact eqn h h1
    | cond c x y =>
      simp only [absCode] at h
      split at h
      · rename_i t heq
        have hds := decideB_same σ t
        generalize decideB σ t = q at h hds
        obtain ⟨t', σ0⟩ := q
        have A0 : AStep σ σ0 := (AStep.refl σ).same hds hds.obl
        simp only at h
        cases t' with
        | true => exact A0.trans (ih x _ _ _ _ _ h)
        | false => exact A0.trans (ih y _ _ _ _ _ h)
      · simp at h
    | block id b =>
      simp only [absCode] at h
      cases hx : absCode P call n b τ σ with
      | none => rw [hx] at h; simp at h
      | some p =>
        obtain ⟨o1, τ1, σ1⟩ := p
        rw [hx] at h
        have h1 := ih b _ _ _ _ _ hx
        cases o1 with
        | exit id' =>
          simp only at h
          cases hb : Nat.beq id' id with
          | true => rw [hb, cond_true] at h; exact eqn h h1
          | false => rw [hb, cond_false] at h; exact eqn h h1
        | normal => exact eqn h h1
        | ret => exact eqn h h1
    | loop b =>
      simp only [absCode] at h
      cases hx : absCode P call n b τ σ with
      | none => rw [hx] at h; simp at h
      | some p =>
        obtain ⟨o1, τ1, σ1⟩ := p
        rw [hx] at h
        have h1 := ih b _ _ _ _ _ hx
        cases o1 with
        | normal => exact h1.trans (ih (.loop b) _ _ _ _ _ h)
        | exit id => exact eqn h h1
        | ret => exact eqn h h1
    | exit id => simp only [absCode] at h; exact eqn h (.refl _)
    | ret => simp only [absCode] at h; exact eqn h (.refl _)
    | skip => simp only [absCode] at h; exact eqn h (.refl _)
    | label l => simp only [absCode] at h; exact eqn h (.refl _)
    | rangeFunc f ps as b => simp [absCode] at h
    | scope b => simp [absCode] at h
    | goto l => simp [absCode] at h
    | refuse s => simp [absCode] at h

theorem code_ok {P : Program} {call : Caller} (hN : NoNum P) (hC : CallOK P call) (hc : CallA call) (hm : P.follows .mixedOrders = true) : ∀ (n : Nat) (c : Code) (τ τ' : List Value) (σ σ' : AHeap) (out : Out), absCode P call n c τ σ = some (out, τ', σ') → okObl σ' →
    ∀ (r : Ren) (w : World) (a : Act), WRel r σ w → TRel r τ a → ∀ Q : Exit → Act → World → Prop, Post r σ w a out τ' σ' Q → c.wp P Q a w ∧ ∀ b, c = .loop b → InLoopWp P b Q a w
  | 0, c, τ, τ', σ, σ', out, h, _, _, _, _, _, _, _, _ => by simp [absCode] at h
  | n + 1, c, τ, τ', σ, σ', out, h, hob, r, w, a, hw, ht, Q, hq => by
    have ih := code_ok hN hC hc hm n
    cases c with
    | region id ops draw =>
      refine ⟨?_, fun b hb => by cases hb⟩
      simp only [absCode] at h
      split at h
      · rename_i τ1 σ1 h1
        simp only [Option.some.injEq, Prod.mk.injEq] at h
        obtain ⟨rfl, rfl, rfl⟩ := h
        cases draw with
        | true => exact draw_ok hN hC hc hm h1 hob hw ht hq
        | false => exact region_ok hN hC hc h1 hob hw ht hq
      · simp at h
    | seq x y =>
      refine ⟨?_, fun b hb => by cases hb⟩
      simp only [absCode] at h
      cases hx : absCode P call n x τ σ with
      | none => rw [hx] at h; simp at h
      | some p =>
        obtain ⟨o1, τ1, σ1⟩ := p
        rw [hx] at h
        have hob1 : okObl σ1 := by
          cases o1 with
          | normal => exact (code_astep hc n y _ _ _ _ _ h).obl hob
          | exit id => simp only [Option.some.injEq, Prod.mk.injEq] at h; obtain ⟨_, _, rfl⟩ := h; exact hob
          | ret => simp only [Option.some.injEq, Prod.mk.injEq] at h; obtain ⟨_, _, rfl⟩ := h; exact hob
        refine wp_seq ((ih x _ _ _ _ _ hx hob1 r w a hw ht _ ?_).1)
        intro r1 w1 a1 hs ht1 hd
        cases o1 with
        | normal => exact (ih y _ _ _ _ _ h hob r1 w1 a1 hs.rel ht1 Q (hq.step hw hs hd)).1
        | exit id =>
          simp only [Option.some.injEq, Prod.mk.injEq] at h
          obtain ⟨rfl, rfl, rfl⟩ := h
          exact hq r1 w1 a1 hs ht1 hd
        | ret =>
          simp only [Option.some.injEq, Prod.mk.injEq] at h
          obtain ⟨rfl, rfl, rfl⟩ := h
          exact hq r1 w1 a1 hs ht1 hd
    | cond c x y =>
      refine ⟨?_, fun b hb => by cases hb⟩
      simp only [absCode] at h
      split at h
      · rename_i t heq
        have hv := ev_rel hw ht c
        rw [heq] at hv
        have hds := decideB_same σ t
        have hdo := @decideB_ok σ t
        generalize decideB σ t = q at h hds hdo
        obtain ⟨t', σ0⟩ := q
        have hw0 : WRel r σ0 w := hds.wrel hw
        have hq0 : Post r σ0 w a out τ' σ' Q := hq.step hw ((Step.refl hw).same hds) rfl
        simp only at h
        cases t' with
        | true =>
          rw [cond_true] at h
          have e : true = t := (hdo ((code_astep hc n x _ _ _ _ _ h).obl hob)).1
          refine wp_cond (t := true) (by rw [e]; exact hv.bool_inv) ?_
          exact (ih x _ _ _ _ _ h hob r w a hw0 ht Q hq0).1
        | false =>
          rw [cond_false] at h
          have e : false = t := (hdo ((code_astep hc n y _ _ _ _ _ h).obl hob)).1
          refine wp_cond (t := false) (by rw [e]; exact hv.bool_inv) ?_
          exact (ih y _ _ _ _ _ h hob r w a hw0 ht Q hq0).1
      · simp at h
    | block id b =>
      refine ⟨?_, fun b hb => by cases hb⟩
      simp only [absCode] at h
      refine wp_block ?_
      cases hx : absCode P call n b τ σ with
      | none => rw [hx] at h; simp at h
      | some p =>
        obtain ⟨o1, τ1, σ1⟩ := p
        rw [hx] at h
        have hob1 : okObl σ1 := by
          cases o1 with
          | exit id' =>
            simp only at h
            cases hb : Nat.beq id' id with
            | true => rw [hb, cond_true] at h; simp only [Option.some.injEq, Prod.mk.injEq] at h; obtain ⟨_, _, rfl⟩ := h; exact hob
            | false => rw [hb, cond_false] at h; simp only [Option.some.injEq, Prod.mk.injEq] at h; obtain ⟨_, _, rfl⟩ := h; exact hob
          | normal => simp only [Option.some.injEq, Prod.mk.injEq] at h; obtain ⟨_, _, rfl⟩ := h; exact hob
          | ret => simp only [Option.some.injEq, Prod.mk.injEq] at h; obtain ⟨_, _, rfl⟩ := h; exact hob
        refine (ih b _ _ _ _ _ hx hob1 r w a hw ht _ ?_).1
        intro r1 w1 a1 hs ht1 hd
        cases o1 with
        | exit id' =>
          simp only at h
          simp only [Out.toExit, Exit.inBlock]
          by_cases he : id' = id
          · rw [beq_of he, cond_true] at h
            simp only [Option.some.injEq, Prod.mk.injEq] at h
            obtain ⟨rfl, rfl, rfl⟩ := h
            rw [if_pos he]
            exact hq r1 w1 a1 hs ht1 hd
          · rw [beq_ne he, cond_false] at h
            simp only [Option.some.injEq, Prod.mk.injEq] at h
            obtain ⟨rfl, rfl, rfl⟩ := h
            rw [if_neg he]
            exact hq r1 w1 a1 hs ht1 hd
        | normal =>
          simp only [Option.some.injEq, Prod.mk.injEq] at h
          obtain ⟨rfl, rfl, rfl⟩ := h
          exact hq r1 w1 a1 hs ht1 hd
        | ret =>
          simp only [Option.some.injEq, Prod.mk.injEq] at h
          obtain ⟨rfl, rfl, rfl⟩ := h
          exact hq r1 w1 a1 hs ht1 hd
    | loop b =>
      simp only [absCode] at h
      have key : b.wp P (Exit.then (InLoopWp P b Q) Q) a w := by
        cases hx : absCode P call n b τ σ with
        | none => rw [hx] at h; simp at h
        | some p =>
          obtain ⟨o1, τ1, σ1⟩ := p
          rw [hx] at h
          have hob1 : okObl σ1 := by
            cases o1 with
            | normal => exact (code_astep hc n (.loop b) _ _ _ _ _ h).obl hob
            | exit id => simp only [Option.some.injEq, Prod.mk.injEq] at h; obtain ⟨_, _, rfl⟩ := h; exact hob
            | ret => simp only [Option.some.injEq, Prod.mk.injEq] at h; obtain ⟨_, _, rfl⟩ := h; exact hob
          refine (ih b _ _ _ _ _ hx hob1 r w a hw ht _ ?_).1
          intro r1 w1 a1 hs ht1 hd
          cases o1 with
          | normal => exact (ih (.loop b) _ _ _ _ _ h hob r1 w1 a1 hs.rel ht1 Q (hq.step hw hs hd)).2 b rfl
          | exit id =>
            simp only [Option.some.injEq, Prod.mk.injEq] at h
            obtain ⟨rfl, rfl, rfl⟩ := h
            exact hq r1 w1 a1 hs ht1 hd
          | ret =>
            simp only [Option.some.injEq, Prod.mk.injEq] at h
            obtain ⟨rfl, rfl, rfl⟩ := h
            exact hq r1 w1 a1 hs ht1 hd
      refine ⟨loop_of key, fun b' hb => ?_⟩
      cases hb
      exact inLoop_of key
    | exit id =>
      refine ⟨?_, fun b hb => by cases hb⟩
      simp only [absCode, Option.some.injEq, Prod.mk.injEq] at h
      obtain ⟨rfl, rfl, rfl⟩ := h
      exact wp_exit (hq r w a (Step.refl hw) ht rfl)
    | ret =>
      refine ⟨?_, fun b hb => by cases hb⟩
      simp only [absCode, Option.some.injEq, Prod.mk.injEq] at h
      obtain ⟨rfl, rfl, rfl⟩ := h
      exact wp_ret (hq r w a (Step.refl hw) ht rfl)
    | skip =>
      refine ⟨?_, fun b hb => by cases hb⟩
      simp only [absCode, Option.some.injEq, Prod.mk.injEq] at h
      obtain ⟨rfl, rfl, rfl⟩ := h
      exact wp_skip (hq r w a (Step.refl hw) ht rfl)
    | label l =>
      refine ⟨?_, fun b hb => by cases hb⟩
      simp only [absCode, Option.some.injEq, Prod.mk.injEq] at h
      obtain ⟨rfl, rfl, rfl⟩ := h
      exact wp_label (hq r w a (Step.refl hw) ht rfl)
    | rangeFunc f ps as b => simp [absCode] at h
    | scope b => simp [absCode] at h
    | goto l => simp [absCode] at h
    | refuse s => simp [absCode] at h

/-! ### Calls -/
def resultsL (P : Program) (τ : List Value) (σ : AHeap) : List ResultVar → Option (List Value)
  | [] => some []
  | .tmp t :: rs => (resultsL P τ σ rs).map (atT τ t :: ·)
  | .cell x t :: rs => match atT τ x with
    | .pointer (some a) => match loadAt P t a σ, resultsL P τ σ rs with
      | some v, some l => some (v :: l)
      | _, _ => none
    | _ => none
def oneOf : List Value → Value
  | [v] => v
  | l => .tuple l.toArray

def resF (tmps : Array Value) : ResultVar → Sem Value
  | .tmp t => pure (tmps.getD t undef)
  | .cell x t => do loadVar t (← asAddr (tmps.getD x undef))
theorem results_eq (fn : Func) (tmps : Array Value) : results fn tmps = (do
    let vs ← fn.results.mapM (resF tmps)
    pure (if h : vs.size = 1 then vs[0] else .tuple vs)) := rfl

theorem results_ok {P : Program} {r : Ren} {σ : AHeap} {w : World} {τ : List Value} {a : Act} (hw : WRel r σ w) (ht : TRel r τ a) : ∀ (rs : List ResultVar) (l : List Value), resultsL P τ σ rs = some l →
    ∃ l' : List Value, (rs.mapM (resF a.tmps)).run P w = .ok l' w ∧ LRel r l l'
  | [], l, h => by
    simp only [resultsL, Option.some.injEq] at h
    subst h
    exact ⟨[], by simp, .nil r⟩
  | .tmp t :: rs, l, h => by
    simp only [resultsL, Option.map_eq_some_iff] at h
    obtain ⟨l1, h1, rfl⟩ := h
    obtain ⟨l', k1, k2⟩ := results_ok hw ht rs l1 h1
    refine ⟨a.tmps.getD t undef :: l', ?_, .cons (ht.at t) k2⟩
    simp only [List.mapM_cons, resF, Sem.run_bind, Sem.run_pure, Result.andThen_ok, k1]
  | .cell x t :: rs, l, h => by
    simp only [resultsL] at h
    split at h
    · rename_i ad heq
      split at h
      · rename_i v l1 hv h1
        obtain rfl := Option.some.inj h
        obtain ⟨l', k1, k2⟩ := results_ok hw ht rs l1 h1
        have hx := ht.at x
        rw [heq] at hx
        obtain ⟨b, e1, e2, hr⟩ := hx.ptr_inv
        obtain ⟨v', j1, j2⟩ := load_ok hw hr hv
        refine ⟨v' :: l', ?_, .cons j2 k2⟩
        simp only [List.mapM_cons, Sem.run_bind, Sem.run_pure, Result.andThen_ok]
        have hf : (resF a.tmps (.cell x t)).run P w = .ok v' w := by
          simp only [resF, e1, asAddr, Sem.run_bind, Sem.run_pure, Result.andThen_ok, j1]
        rw [hf]
        simp only [Result.andThen_ok, k1]
      · simp at h
    · simp at h

theorem oneOf_rel {r : Ren} {l l' : List Value} (h : LRel r l l') : VRel r (oneOf l) (if h : l'.toArray.size = 1 then l'.toArray[0] else .tuple l'.toArray) := by
  cases l with
  | nil => obtain rfl := h.nil_left; exact VRel.tuple' (.nil r)
  | cons v l =>
    obtain ⟨v', m, rfl, h1, h2⟩ := h.cons_left
    cases l with
    | nil => obtain rfl := h2.nil_left; exact h1
    | cons u l =>
      obtain ⟨u', m', rfl, h3, h4⟩ := h2.cons_left
      have : ¬ ((v' :: u' :: m').toArray.size = 1) := by simp
      rw [dif_neg this]
      exact VRel.tuple' h

/-- A call, to a depth. 'ora': what is known of some functions ahead. -/
def absCall (P : Program) (ora : FuncId → Option (List Value → AHeap → Option (Value × AHeap))) : Nat → Caller
  | 0, _, _, _ => none
  | n + 1, f, args, σ =>
    match ora f with
    | some g => g args σ
    | none =>
      match P.funcs[f]? with
      | some fn => match fn.body with
        | some c =>
          match absCode P (absCall P ora n) 1000000 c (args ++ List.replicate (fn.ntmps - args.length) undef) σ with
          | some (.exit _, _, _) => none
          | some (_, τ, σ') => (resultsL P τ σ' fn.results.toList).map fun l => (oneOf l, σ')
          | none => none
        | none => none
      | none => none

def OraOK (P : Program) (ora : FuncId → Option (List Value → AHeap → Option (Value × AHeap))) : Prop :=
  ∀ f g, ora f = some g → CallOK P (fun k args σ => if k = f then g args σ else none) ∧ ∀ args σ v σ', g args σ = some (v, σ') → AStep σ σ'

theorem call_astep {P : Program} {ora : FuncId → Option (List Value → AHeap → Option (Value × AHeap))} (ho : OraOK P ora) : ∀ n, CallA (absCall P ora n)
  | 0 => fun f args σ v σ' h => by simp [absCall] at h
  | n + 1 => fun f args σ v σ' h => by
    unfold absCall at h
    split at h
    · rename_i g hg
      exact (ho f g hg).2 args σ v σ' h
    · split at h
      · split at h
        · split at h
          · simp at h
          · rename_i τ σ1 _ hc
            obtain ⟨l, _, e⟩ := Option.map_eq_some_iff.1 h
            simp only [Prod.mk.injEq] at e
            obtain ⟨_, rfl⟩ := e
            exact code_astep (call_astep ho n) _ _ _ _ _ _ _ hc
          · simp at h
        · simp at h
      · simp at h

theorem abs_ok {P : Program} {ora : FuncId → Option (List Value → AHeap → Option (Value × AHeap))} (ho : OraOK P ora) (hN : NoNum P) (hm : P.follows .mixedOrders = true) : ∀ n, CallOK P (absCall P ora n)
  | 0 => fun f args σ v σ' h => by simp [absCall] at h
  | n + 1 => fun f args σ v σ' h => by
    unfold absCall at h
    split at h
    · rename_i g hg
      have := (ho f g hg).1 f args σ v σ' (by show (if f = f then g args σ else none) = _; rw [if_pos rfl]; exact h)
      exact this
    · split at h
      · rename_i fn hf
        split at h
        · rename_i c hb
          intro hob r w args' hw hargs
          have hsz : args.length = args'.size := by simpa using hargs.1
          have ht : TRel r (args ++ List.replicate (fn.ntmps - args.length) undef) { tmps := args' ++ Array.replicate (fn.ntmps - args'.size) undef, defers := [] } := by
            unfold TRel
            simp only [Array.toList_append, Array.toList_replicate]
            rw [hsz]
            refine hargs.append ?_
            refine ⟨rfl, fun i x y hx hy => ?_⟩
            rw [hx] at hy
            obtain rfl := Option.some.inj hy
            have := List.mem_of_getElem? hx
            rw [(List.mem_replicate.1 this).2]
            exact .undef r
          have fin : ∀ (out : Out) (τ : List Value) (σ1 : AHeap), (out = .normal ∨ out = .ret) → absCode P (absCall P ora n) 1000000 c (args ++ List.replicate (fn.ntmps - args.length) undef) σ = some (out, τ, σ1) →
              (resultsL P τ σ1 fn.results.toList).map (fun l => (oneOf l, σ1)) = some (v, σ') → okObl σ' → Calls P f args' w fun e w' => ∃ v' r', e = .returned v' ∧ Step r σ w r' σ' w' ∧ VRel r' v v' := by
            intro out τ σ1 hout hcode hres hob
            obtain ⟨l, hl, e⟩ := Option.map_eq_some_iff.1 hres
            simp only [Prod.mk.injEq] at e
            obtain ⟨rfl, rfl⟩ := e
            refine calls_of_wp hf hb ((code_ok hN (abs_ok ho hN hm n) (call_astep ho n) hm 1000000 c _ _ _ _ out hcode hob r w _ hw ht _ ?_).1)
            intro r1 w1 a1 hs ht1 hd
            obtain ⟨l', k1, k2⟩ := results_ok hs.rel ht1 fn.results.toList l hl
            have hrun : (results fn a1.tmps).run P w1 = .ok (if h : l'.toArray.size = 1 then l'.toArray[0] else .tuple l'.toArray) w1 := by
              rw [results_eq, Array.mapM_eq_mapM_toList]
              simp only [Sem.run_bind, Sem.run_map, Sem.run_pure, k1, Result.andThen_ok]
            rcases hout with rfl | rfl
            · exact ⟨hd, _, hrun, _, r1, rfl, hs, oneOf_rel k2⟩
            · exact ⟨hd, _, hrun, _, r1, rfl, hs, oneOf_rel k2⟩
          split at h
          · simp at h
          · rename_i out τ σ1 hne hc
            refine fin out τ σ1 ?_ hc h hob
            cases out with
            | normal => exact .inl rfl
            | ret => exact .inr rfl
            | exit id => exact absurd rfl (hne id)
          · simp at h
        · simp at h
      · simp at h

end Go.Abs
