/- A3: the operations of the abstract machine, and that each is what the model's own operation does (all but calls). General over the program. -/
import Derived.Test.YtcadfopmadjanaaA2
import Derived.Laws.BytesArg
namespace Go.Abs
set_option linter.unusedVariables false
set_option linter.unusedSimpArgs false

/-! ### What has no effect -/
def pureOf (P : Program) {α : Type} : Sem α → Option α
  | .pure a => some a
  | .program k => pureOf P (k P)
  | .mark _ k => pureOf P k
  | _ => none
theorem pureOf_run {P : Program} {α : Type} (w : World) : ∀ (s : Sem α) (a : α), pureOf P s = some a → s.run P w = .ok a w
  | .pure a, b, h => by simp only [pureOf, Option.some.injEq] at h; subst h; rfl
  | .program k, b, h => by simp only [Sem.run]; exact pureOf_run w (k P) b (by simpa [pureOf] using h)
  | .mark m k, b, h => by simp only [Sem.run]; exact pureOf_run w k b (by simpa [pureOf] using h)
  | .load .., b, h | .store .., b, h | .new .., b, h | .shape .., b, h | .freeze .., b, h | .frozen .., b, h | .getObj .., b, h | .setObj .., b, h | .choose .., b, h | .sys .., b, h | .halt .., b, h => by simp [pureOf] at h

/-- The value of an effectless computation over values without names. -/
def pureVal (P : Program) (s : Sem Value) : Option Value := (pureOf P s).bind fun v => bif noPtr 8 v then some v else none
theorem pureVal_run {P : Program} (w : World) {s : Sem Value} {v : Value} (h : pureVal P s = some v) (r : Ren) : s.run P w = .ok v w ∧ VRel r v v := by
  unfold pureVal at h
  obtain ⟨u, hu, h⟩ := Option.bind_eq_some_iff.1 h
  by_cases hn : noPtr 8 u = true
  · rw [hn, cond_true] at h
    obtain rfl := Option.some.inj h
    exact ⟨pureOf_run w _ _ hu, VRel.refl_of_noPtr r 8 _ hn⟩
  · simp only [Bool.not_eq_true] at hn
    rw [hn, cond_false] at h; simp at h

def solid : Value → Bool
  | .complex .. => false
  | _ => true

/-! ### Operands -/
def ev (glob : Nat) (τ : List Value) : Operand → Value
  | .tmp t => (getL τ t).getD undef
  | .const v => bif isAtom v || noPtr 8 v then v else poison
  | .global g => bif Nat.blt g glob then .pointer (some ⟨g, 0, none⟩) else poison
  | .func f => .func (.func f) #[] #[]

/-- The frame's variables. -/
def TRel (r : Ren) (τ : List Value) (a : Act) : Prop := LRel r τ a.tmps.toList

theorem ev_rel {r : Ren} {σ : AHeap} {w : World} {τ : List Value} {a : Act} (h : WRel r σ w) (ht : TRel r τ a) (x : Operand) : VRel r (ev σ.glob τ x) (a.eval x) := by
  cases x with
  | tmp t =>
    simp only [ev, Act.eval, getL_eq]
    cases hx : τ[t]? with
    | none =>
      have : a.tmps.size ≤ t := by
        have h1 := ht.1
        have h2 := List.getElem?_eq_none_iff.1 hx
        simp at h1; omega
      simp [Array.getD_eq_getD_getElem?, Array.getElem?_eq_none this, VRel.undef]
    | some v =>
      obtain ⟨u, hu, hv⟩ := LRel.get ht hx
      rw [Array.getElem?_toList] at hu
      simp [Array.getD_eq_getD_getElem?, hu, hv]
  | const v =>
    simp only [ev, Act.eval]
    by_cases h1 : isAtom v = true
    · simp [h1, VRel.atom v h1]
    · by_cases h2 : noPtr 8 v = true
      · simp [h2, VRel.refl_of_noPtr r 8 v h2]
      · simp only [Bool.not_eq_true] at h1 h2
        simp [h1, h2, VRel.poison]
  | global g =>
    simp only [ev, Act.eval]
    by_cases hg : Nat.blt g σ.glob = true
    · simp only [hg, cond_true]
      exact .ptr g g 0 none (h.glob g (by simpa [Nat.blt_eq] using hg))
    · simp only [Bool.not_eq_true] at hg
      simp only [hg, cond_false]
      exact .poison _
  | func f =>
    simp only [ev, Act.eval]
    exact .func f #[] #[] rfl (fun i ha => by simp at ha)

/-! ### Comparisons with nil -/
def eqNil (P : Program) (t : TypeId) (x y : Value) : Option Bool :=
  match P.underlying t, x, y with
  | some (.pointer _), .pointer none, .pointer b => some b.isNone
  | some (.pointer _), .pointer (some _), .pointer none => some false
  | some (.slice _), .slice none _ _, .slice none _ _ => some true
  | some (.slice _), .slice none _ _, .slice (some _) _ c => bif Nat.beq c UNK3 then none else some false
  | some (.slice _), .slice (some _) _ c, .slice none _ _ => bif Nat.beq c UNK3 then none else some false
  | some (.map ..), .map none, .map b => some b.isNone
  | some (.map ..), .map (some _), .map none => some false
  | some (.func ..), .nilFunc, .nilFunc => some true
  | some (.func ..), .nilFunc, .func .. => some false
  | some (.func ..), .func .., .nilFunc => some false
  | some (.interface _), .nilIface, .iface .. => some false
  | some (.interface _), .iface .., .nilIface => some false
  | _, _, _ => none

theorem nz_spec {c : Nat} {x b : Bool} (h : (bif Nat.beq c UNK3 then none else some x) = some b) : c ≠ UNK3 ∧ some x = some b := by
  by_cases e : c = UNK3
  · rw [beq_of e, cond_true] at h; simp at h
  · rw [beq_ne e, cond_false] at h; exact ⟨e, h⟩
theorem eqNil_run {P : Program} {r : Ren} {t : TypeId} {x y x' y' : Value} {b : Bool} (hx : VRel r x x') (hy : VRel r y y') (h : eqNil P t x y = some b) (w : World) (X Y : Operand) :
    ((do eqGuard .eql t X Y x' y'; binOp .eql t x' y') : Sem Value).run P w = .ok (.bool b) w ∧ ((do eqGuard .neq t X Y x' y'; binOp .neq t x' y') : Sem Value).run P w = .ok (.bool !b) w := by
  unfold eqNil at h
  cases hu : P.underlying t with
  | none => rw [hu] at h; simp at h
  | some d =>
    rw [hu] at h
    have key : ∀ (_ : (∀ op, eqGuard op t X Y x' y' = pure ())) (_ : ∀ n, (Op.equalIn (n + 1) t x' y').run P w = .ok b w) (_ : binOp .eql t x' y' = (do pure (.bool (← Op.equal t x' y')))) (_ : binOp .neq t x' y' = (do pure (.bool (!(← Op.equal t x' y'))))),
        ((do eqGuard .eql t X Y x' y'; binOp .eql t x' y') : Sem Value).run P w = .ok (.bool b) w ∧ ((do eqGuard .neq t X Y x' y'; binOp .neq t x' y') : Sem Value).run P w = .ok (.bool !b) w := by
      intro h1 h2 h3 h4
      have h2' : (Op.equal t x' y').run P w = .ok b w := h2 9999
      rw [h1, h1, h3, h4]
      simp [h2']
    split at h
    all_goals (try (cases h; done))
    all_goals (try (have hZ := (nz_spec h).1; replace h := (nz_spec h).2))
    all_goals (have hh := Option.some.inj h; clear h; subst hh)
    all_goals (have hd := Option.some.inj ‹some d = some _›; subst hd)
    · obtain rfl := hx.nilptr_inv
      rename_i bb _
      cases bb with
      | none => obtain rfl := hy.nilptr_inv; exact key (fun op => by cases op <;> rfl) (fun n => by simp only [Op.equalIn, Sem.run_bind, run_underlying hu, Result.andThen_ok]; rfl) rfl rfl
      | some bb => obtain ⟨c, rfl, _, _⟩ := hy.ptr_inv; exact key (fun op => by cases op <;> rfl) (fun n => by simp only [Op.equalIn, Sem.run_bind, run_underlying hu, Result.andThen_ok]; rfl) rfl rfl
    · obtain ⟨c, rfl, _, _⟩ := hx.ptr_inv
      obtain rfl := hy.nilptr_inv
      exact key (fun op => by cases op <;> rfl) (fun n => by simp only [Op.equalIn, Sem.run_bind, run_underlying hu, Result.andThen_ok]; rfl) rfl rfl
    · obtain rfl := hx.nilslice_inv
      obtain rfl := hy.nilslice_inv
      exact key (fun op => by cases op <;> rfl) (fun n => by simp only [Op.equalIn, Sem.run_bind, run_underlying hu, Result.andThen_ok]; rfl) rfl rfl
    · obtain rfl := hx.nilslice_inv
      obtain ⟨s, c', rfl⟩ := hy.slice_some hZ
      exact key (fun op => by cases op <;> rfl) (fun n => by simp only [Op.equalIn, Sem.run_bind, run_underlying hu, Result.andThen_ok]; rfl) rfl rfl
    · obtain ⟨s, c', rfl⟩ := hx.slice_some hZ
      obtain rfl := hy.nilslice_inv
      exact key (fun op => by cases op <;> rfl) (fun n => by simp only [Op.equalIn, Sem.run_bind, run_underlying hu, Result.andThen_ok]; rfl) rfl rfl
    · obtain rfl := hx.nilmap_inv
      rename_i bb _
      cases bb with
      | none => obtain rfl := hy.nilmap_inv; exact key (fun op => by cases op <;> rfl) (fun n => by simp only [Op.equalIn, Sem.run_bind, run_underlying hu, Result.andThen_ok]; rfl) rfl rfl
      | some bb => obtain ⟨c, rfl, _⟩ := hy.map_inv; exact key (fun op => by cases op <;> rfl) (fun n => by simp only [Op.equalIn, Sem.run_bind, run_underlying hu, Result.andThen_ok]; rfl) rfl rfl
    · obtain ⟨c, rfl, _⟩ := hx.map_inv
      obtain rfl := hy.nilmap_inv
      exact key (fun op => by cases op <;> rfl) (fun n => by simp only [Op.equalIn, Sem.run_bind, run_underlying hu, Result.andThen_ok]; rfl) rfl rfl
    · obtain rfl := hx.nilFunc_inv
      obtain rfl := hy.nilFunc_inv
      exact key (fun op => by cases op <;> rfl) (fun n => by simp only [Op.equalIn, Sem.run_bind, run_underlying hu, Result.andThen_ok]; rfl) rfl rfl
    · obtain rfl := hx.nilFunc_inv
      obtain ⟨_, _, rfl, rfl, rfl, _⟩ := hy.func_inv
      exact key (fun op => by cases op <;> rfl) (fun n => by simp only [Op.equalIn, Sem.run_bind, run_underlying hu, Result.andThen_ok]; rfl) rfl rfl
    · obtain ⟨_, _, rfl, rfl, rfl, _⟩ := hx.func_inv
      obtain rfl := hy.nilFunc_inv
      exact key (fun op => by cases op <;> rfl) (fun n => by simp only [Op.equalIn, Sem.run_bind, run_underlying hu, Result.andThen_ok]; rfl) rfl rfl
    · obtain rfl := hx.nilIface_inv
      obtain ⟨_, rfl, _⟩ := hy.iface_inv
      exact key (fun op => by cases op <;> rfl) (fun n => by simp only [Op.equalIn, Sem.run_bind, run_underlying hu, Result.andThen_ok]; rfl) rfl rfl
    · obtain ⟨_, rfl, _⟩ := hx.iface_inv
      obtain rfl := hy.nilIface_inv
      exact key (fun op => by cases op <;> rfl) (fun n => by simp only [Op.equalIn, Sem.run_bind, run_underlying hu, Result.andThen_ok]; rfl) rfl rfl

end Go.Abs
