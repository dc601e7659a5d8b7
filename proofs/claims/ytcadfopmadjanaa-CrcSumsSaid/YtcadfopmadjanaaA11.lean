/- A11: regions of operations: in the text's order, and in whatever order is drawn. General over the program. -/
import Derived.Test.YtcadfopmadjanaaA10S
namespace Go.Abs
set_option linter.unusedVariables false
set_option linter.unusedSimpArgs false

def wantedL (ops : Array Oper) (τ : List Value) (o : Oper) : Option Bool :=
  match o.guard with
  | none => some true
  | some (j, want) => match (ops[j]?).bind (·.dst) with
    | none => some false
    | some d => match getL τ d with
      | none => some false
      | some (.bool b) => some (b == want)
      | some (.tuple _) => some false
      | some _ => none

def putL (τ : List Value) (d : Option Nat) (v : Value) : List Value :=
  match d with
  | some d => setL τ d v
  | none => τ

/-- The frame's variable at a place. -/
def atT (τ : List Value) (t : Nat) : Value := (getL τ t).getD undef

theorem wanted_rel {r : Ren} {ops : Array Oper} {τ : List Value} {a : Act} {o : Oper} {b : Bool} (hsz : τ.length = a.tmps.size)
    (ht : ∀ j want d, o.guard = some (j, want) → (ops[j]?).bind (·.dst) = some d → VRel r (atT τ d) (a.tmps.getD d undef)) (h : wantedL ops τ o = some b) :
    Region.wanted o (yielded ops a.tmps) = b := by
  unfold wantedL at h
  unfold Region.wanted
  cases hg : o.guard with
  | none => rw [hg] at h; simpa using h
  | some q =>
    obtain ⟨j, want⟩ := q
    rw [hg] at h
    simp only at h ⊢
    unfold yielded
    cases hd : (ops[j]?).bind (·.dst) with
    | none => rw [hd] at h; simp only [Option.some.injEq] at h; subst h; simp
    | some d =>
      rw [hd] at h
      have hv := ht j want d hg hd
      simp only [Option.bind_some] at h ⊢
      unfold atT at hv
      rw [getL_eq] at h hv
      by_cases hlt : d < τ.length
      · rw [List.getElem?_eq_getElem hlt] at h hv
        have hlt' : d < a.tmps.size := hsz ▸ hlt
        rw [Array.getElem?_eq_getElem hlt']
        simp only [Option.getD_some, Array.getD_eq_getD_getElem?, Array.getElem?_eq_getElem hlt'] at hv
        generalize τ[d] = x at h hv
        generalize a.tmps[d] = y at hv ⊢
        split at h
        · rename_i heq; cases heq
        · rename_i b' heq
          obtain rfl := Option.some.inj heq
          obtain rfl := hv.bool_inv
          simp only [Option.some.injEq] at h
          subst h
          simp
        · rename_i tv heq
          obtain rfl := Option.some.inj heq
          obtain ⟨bs, rfl, _⟩ := hv.tuple_inv
          simp only [Option.some.injEq] at h
          subst h
          simp
        · simp at h
      · rw [List.getElem?_eq_none (Nat.not_lt.1 hlt)] at h
        rw [Array.getElem?_eq_none (hsz ▸ Nat.not_lt.1 hlt)]
        simp only [Option.some.injEq] at h
        subst h
        simp

theorem TRel.at {r : Ren} {τ : List Value} {a : Act} (h : TRel r τ a) (t : Nat) : VRel r (atT τ t) (a.tmps.getD t undef) := by
  unfold atT
  rw [getL_eq]
  have hsz : τ.length = a.tmps.size := by simpa using h.1
  by_cases hlt : t < τ.length
  · have hlt' : t < a.tmps.size := by omega
    rw [List.getElem?_eq_getElem hlt]
    simp only [Option.getD_some, Array.getD_eq_getD_getElem?, Array.getElem?_eq_getElem hlt']
    exact h.2 t _ _ (List.getElem?_eq_getElem hlt) (by rw [Array.getElem?_toList]; exact Array.getElem?_eq_getElem hlt')
  · rw [List.getElem?_eq_none (by omega)]
    simp only [Option.getD_none, Array.getD_eq_getD_getElem?, Array.getElem?_eq_none (show a.tmps.size ≤ t by omega)]
    exact .undef r
theorem TRel.of_at {r : Ren} {τ : List Value} {a : Act} (hsz : τ.length = a.tmps.size) (h : ∀ t, VRel r (atT τ t) (a.tmps.getD t undef)) : TRel r τ a := by
  refine ⟨by simpa using hsz, fun i x y hx hy => ?_⟩
  have := h i
  unfold atT at this
  rw [getL_eq, hx] at this
  rw [Array.getElem?_toList] at hy
  simpa [Array.getD_eq_getD_getElem?, hy] using this

theorem put_rel {r : Ren} {τ : List Value} {a : Act} {v v' : Value} (h : TRel r τ a) (hv : VRel r v v') (d : Option Nat) : TRel r (putL τ d v) (a.put d v') := by
  cases d with
  | none => exact h
  | some d =>
    unfold TRel putL Act.put
    simp only [setL_eq, Array.toList_setIfInBounds]
    exact LRel.set h d hv
theorem TRel.mono {r r' : Ren} (hr : r.le r') {τ : List Value} {a : Act} (h : TRel r τ a) : TRel r' τ a := LRel.mono hr h

/-! ### In the text's order -/
def decideG (g : Bool) (σ : AHeap) (t : Bool) : Bool × AHeap := bif g then decideB σ t else (t, σ)
theorem decideG_ok {g : Bool} {σ : AHeap} {t : Bool} (h : okObl (decideG g σ t).2) : (decideG g σ t).1 = t := by
  cases g
  · rfl
  · exact (decideB_ok h).1
theorem decideG_same (g : Bool) (σ : AHeap) (t : Bool) : SameH σ (decideG g σ t).2 := by
  cases g
  · exact .refl σ
  · exact decideB_same σ t
def absOps (P : Program) (call : Caller) (ops : Array Oper) : List Oper → List Value → AHeap → Option (List Value × AHeap)
  | [], τ, σ => some (τ, σ)
  | o :: rest, τ, σ =>
    match wantedL ops τ o with
    | some t => match decideG o.guard.isSome σ t with
      | (b, σ) => bif b then
          match absOpS P call (ev σ.glob τ) o σ with
          | some (v, σ) => absOps P call ops rest (putL τ o.dst v) σ
          | none => none
        else absOps P call ops rest (putL τ o.dst undef) σ
    | none => none

theorem put_defers (a : Act) (d : Option Tmp) (v : Value) : (a.put d v).defers = a.defers := by cases d <;> rfl

theorem ops_astep {P : Program} {call : Caller} (hc : CallA call) {ops : Array Oper} : ∀ (l : List Oper) (τ τ' : List Value) (σ σ' : AHeap), absOps P call ops l τ σ = some (τ', σ') → AStep σ σ'
  | [], τ, τ', σ, σ', h => by
    simp only [absOps, Option.some.injEq, Prod.mk.injEq] at h
    obtain ⟨_, rfl⟩ := h
    exact .refl _
  | o :: l, τ, τ', σ, σ', h => by
    unfold absOps at h
    split at h
    · rename_i t hwant
      have hs := decideG_same o.guard.isSome σ t
      generalize decideG o.guard.isSome σ t = q at h hs
      obtain ⟨b, σ0⟩ := q
      have A0 : AStep σ σ0 := (AStep.refl σ).same hs hs.obl
      cases b with
      | true =>
        simp only [cond_true] at h
        split at h
        · rename_i v σ1 hop
          exact (A0.trans (opS_astep hc hop)).trans (ops_astep hc l _ _ _ _ h)
        · simp at h
      | false =>
        simp only [cond_false] at h
        exact A0.trans (ops_astep hc l _ _ _ _ h)
    · simp at h

theorem ops_ok {P : Program} {call : Caller} (hN : NoNum P) (hc : CallOK P call) (hA : CallA call) {ops : Array Oper} {Q : Exit → Act → World → Prop} : ∀ (l : List Oper) (k : Nat) (τ τ' : List Value) (σ σ' : AHeap) (r : Ren) (w : World) (a : Act),
    ops.toList.drop k = l → absOps P call ops l τ σ = some (τ', σ') → okObl σ' → WRel r σ w → TRel r τ a →
    (∀ r' w' a', Step r σ w r' σ' w' → TRel r' τ' a' → a'.defers = a.defers → Q .normal a' w') → wpOps P ops Q (List.range' k l.length) a w
  | [], k, τ, τ', σ, σ', r, w, a, hl, h, hob, hw, ht, hq => by
    simp only [absOps, Option.some.injEq, Prod.mk.injEq] at h
    obtain ⟨rfl, rfl⟩ := h
    exact hq r w a (Step.refl hw) ht rfl
  | o :: l, k, τ, τ', σ, σ', r, w, a, hl, h, hob, hw, ht, hq => by
    have hk : ops[k]? = some o := by
      have := congrArg (fun l => l[0]?) hl
      simpa [List.getElem?_drop] using this
    have hl' : ops.toList.drop (k + 1) = l := by rw [← List.drop_drop, hl]; rfl
    simp only [List.length_cons, List.range'_succ]
    have hsz : τ.length = a.tmps.size := by simpa using ht.1
    unfold wpOps
    rw [hk]
    simp only
    unfold absOps at h
    split at h
    · rename_i t hwant
      have hs := decideG_same o.guard.isSome σ t
      have hok0 := @decideG_ok o.guard.isSome σ t
      generalize decideG o.guard.isSome σ t = q at h hs hok0
      obtain ⟨b, σ0⟩ := q
      have hob0 : okObl σ0 → b = t := hok0
      have hw0 : WRel r σ0 w := hs.wrel hw
      have s0 : Step r σ w r σ0 w := (Step.refl hw).same hs
      cases b with
      | true =>
        simp only [cond_true] at h
        split at h
        · rename_i v σ1 hop
          have ho1 : okObl σ1 := (ops_astep hA l _ _ _ _ h).obl hob
          have ht' : t = true := (hob0 ((opS_astep hA hop).obl ho1)).symm
          subst ht'
          rw [wanted_rel (b := true) hsz (fun j want d _ _ => ht.at d) hwant, if_pos rfl]
          left
          refine opS_ok ⟨hN, hc, hw0, fun x => ev_rel hw0 ht x⟩ hop ho1 _ _ ?_
          intro r1 w1 v1 hs1 hv
          refine ops_ok hN hc hA l (k + 1) _ τ' σ1 σ' r1 w1 _ hl' h hob hs1.rel (put_rel (ht.mono hs1.le) hv o.dst) ?_
          intro r2 w2 a2 hs2 ht2 hd2
          exact hq r2 w2 a2 (Step.trans hw s0 (Step.trans hw0 hs1 hs2)) ht2 (hd2.trans (put_defers a o.dst v1))
        · simp at h
      | false =>
        simp only [cond_false] at h
        have ht' : t = false := (hob0 ((ops_astep hA l _ _ _ _ h).obl hob)).symm
        subst ht'
        rw [wanted_rel (b := false) hsz (fun j want d _ _ => ht.at d) hwant]
        simp only [Bool.false_eq_true, if_false]
        refine ops_ok hN hc hA l (k + 1) _ τ' σ0 σ' r w _ hl' h hob hw0 (put_rel ht (.undef r) o.dst) ?_
        intro r2 w2 a2 hs2 ht2 hd2
        exact hq r2 w2 a2 (Step.trans hw s0 hs2) ht2 (hd2.trans (put_defers a o.dst undef))
    · simp at h

theorem region_ok {P : Program} {call : Caller} (hN : NoNum P) (hc : CallOK P call) (hA : CallA call) {id : Nat} {ops : Array Oper} {Q : Exit → Act → World → Prop} {τ τ' : List Value} {σ σ' : AHeap} {r : Ren} {w : World} {a : Act}
    (h : absOps P call ops ops.toList τ σ = some (τ', σ')) (hob : okObl σ') (hw : WRel r σ w) (ht : TRel r τ a) (hq : ∀ r' w' a', Step r σ w r' σ' w' → TRel r' τ' a' → a'.defers = a.defers → Q .normal a' w') : (Code.region id ops false).wp P Q a w := by
  refine wp_region ?_
  have := ops_ok hN hc hA ops.toList 0 τ τ' σ σ' r w a (by simp) h hob hw ht hq
  simpa [List.range_eq_range'] using this

end Go.Abs
