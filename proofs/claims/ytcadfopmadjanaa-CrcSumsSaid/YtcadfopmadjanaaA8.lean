/- A8: an operation of the abstract machine, calls among them, and that the model's own operation does the same. General over the program. -/
import Derived.Test.YtcadfopmadjanaaA7
namespace Go.Abs
set_option linter.unusedVariables false
set_option linter.unusedSimpArgs false

abbrev Caller := FuncId → List Value → AHeap → Option (Value × AHeap)

/-- What is promised of a way to call. -/
def CallOK (P : Program) (call : Caller) : Prop := ∀ f args σ v σ', call f args σ = some (v, σ') → σ'.obl.all id = true → ∀ r w (args' : Array Value), WRel r σ w → LRel r args args'.toList →
  Calls P f args' w fun e w' => ∃ v' r', e = .returned v' ∧ Step r σ w r' σ' w' ∧ VRel r' v v'

def hasBody (P : Program) (f : FuncId) : Bool := match P.funcs[f]? with
  | some fn => fn.body.isSome
  | none => false
/-- No function of the program with a body bears the name that the model's call treats by itself. -/
def NoNum (P : Program) : Prop := ∀ (f : FuncId) (fn : Func), P.funcs[f]? = some fn → fn.body.isSome = true → (fn.name == "runtime.NumGoroutine") = false

theorem run_callFunc {P : Program} (hN : NoNum P) {f : FuncId} (h : hasBody P f = true) (args : Array Value) (w : World) : (callFunc f args).run P w = .ok (.enter f args) w := by
  unfold hasBody at h
  cases hf : P.funcs[f]? with
  | none => rw [hf] at h; simp at h
  | some fn =>
    rw [hf] at h
    have h : fn.body.isSome = true := h
    have h1 := hN f fn hf h
    have h2 : fn.body.isNone = false := by
      cases hb : fn.body with
      | none => rw [hb] at h; simp at h
      | some c => rfl
    simp only [callFunc, program, Sem.run_bind, Sem.run, Result.andThen_ok, hf, h1, Bool.false_eq_true, if_false, h2, Sem.run_pure]

def absInvoke (P : Program) (call : Caller) (recv : Value) (name : String) (args : List Value) (σ : AHeap) : Option (Value × AHeap) :=
  match recv with
  | .iface t v => match (P.info? t).bind fun i => i.methods.find? (·.name == name) with
    | some m => match m.func, P.underlying t with
      | some (k, true), some (.pointer _) => bif m.path.isEmpty && hasBody P k && solid v then call k (v :: args) σ else none
      | _, _ => none
    | none => none
  | _ => none

def absBin (P : Program) (op : BinOp) (t : TypeId) (X Y : Operand) (x y : Value) : Option Value :=
  match x, y with
  | .int _ _, .int _ _ => pureVal P (do eqGuard op t X Y x y; binOp op t x y)
  | _, _ => match op, eqNil P t x y with
    | .eql, some b => some (.bool b)
    | .neq, some b => some (.bool !b)
    | _, _ => bif noPtr 8 x && noPtr 8 y then pureVal P (do eqGuard op t X Y x y; binOp op t x y) else none

def absConvert (P : Program) (sT dT : TypeId) (x : Value) (σ : AHeap) : Option (Value × AHeap) :=
  match x with
  | .int k n => (pureVal P (convert sT dT (.int k n))).map fun v => (v, σ)
  | .slice .. => (absToString P sT dT x σ).map fun v => (v, σ)
  | .string s => match absToBytes P sT dT (.string s) σ with
    | some q => some q
    | none => (pureVal P (convert sT dT (.string s))).map fun v => (v, σ)
  | _ => none

def absBuiltin (P : Program) (b : Builtin) (ts : List TypeId) (xs : List Value) (σ : AHeap) : Option (Value × AHeap) :=
  match b, ts, xs with
  | .len, [t], [x] => (absLen P t x σ).map fun v => (v, σ)
  | .cap, [t], [x] => (absCap P t x).map fun v => (v, σ)
  | .append, [s, t], [x, y] => absAppend P s t x y σ
  | .copy, [s, t], [x, y] => absCopy P s x y σ
  | .max, _, xs => bif xs.all (noPtr 8) then (pureVal P (Builtin.max_ #[] 0 xs.toArray)).map fun v => (v, σ) else none
  | .min, _, xs => bif xs.all (noPtr 8) then (pureVal P (Builtin.min_ #[] 0 xs.toArray)).map fun v => (v, σ) else none
  | _, _, _ => none

def absCallOp (P : Program) (call : Caller) (ρ : Operand → Value) (c : Call) (σ : AHeap) : Option (Value × AHeap) :=
  match c.callee with
  | .value f => match ρ f with
    | .func (.func k) _ caps => bif hasBody P k then call k (c.args.toList.map ρ ++ caps.toList) σ else none
    | _ => none
  | .builtin b => absBuiltin P b c.argTypes.toList (c.args.toList.map ρ) σ
  | .invoke recv name => absInvoke P call (ρ recv) name (c.args.toList.map ρ) σ

def nilChecked : Value → Bool
  | .pointer (some _) | .func (.func _) _ _ | .iface .. | .slice .. | .map .. | .int .. | .bool .. | .string .. => true
  | _ => false

def absOp (P : Program) (call : Caller) (ρ : Operand → Value) (o : Oper) (σ : AHeap) : Option (Value × AHeap) :=
  match o.op with
  | .move x | .assign x => some (ρ x, σ)
  | .binOp op t x y _ => (absBin P op t x y (ρ x) (ρ y)).map fun v => (v, σ)
  | .load t a => match ρ a with
    | .pointer (some a) => (loadAt P t a σ).map fun v => (v, σ)
    | _ => none
  | .store t a x => match ρ a with
    | .pointer (some a) => (storeAt P t a (ρ x) σ).map fun σ => (undef, σ)
    | _ => none
  | .call c => absCallOp P call ρ c σ
  | .fieldAddr s x f => (absFieldAddr P s (ρ x) f).map fun v => (v, σ)
  | .indexAddr t x ix => (absIndexAddr P t (ρ x) (ρ ix)).map fun v => (v, σ)
  | .nilCheck x => bif nilChecked (ρ x) then some (ρ x, σ) else none
  | .convert s d x => absConvert P s d (ρ x) σ
  | .pick c a b => match ρ c with
    | .bool t => some (bif t then ρ a else ρ b, σ)
    | _ => none
  | .extract t ix => (absExtract (ρ t) ix).map fun v => (v, σ)
  | .slice t x lo hi mx => (absSlice P t (ρ x) (lo.map ρ) (hi.map ρ) (mx.map ρ)).map fun v => (v, σ)
  | .unOp op _ x => bif noPtr 8 (ρ x) then (pureVal P (Op.unary op (ρ x))).map fun v => (v, σ) else none
  | .buildSlice t len parts => absBuildSlice P t len (parts.toList.map fun p => (p.1, ρ p.2)) σ
  | .build t parts => (absBuild P t (parts.toList.map fun p => (p.1, ρ p.2))).map fun v => (v, σ)
  | .alloc e => absAlloc P e σ
  | .box e x => absBox e (ρ x) σ
  | .field t x f => (absField P t (ρ x) f).map fun v => (v, σ)
  | .index t x ix => (absIndex P t (ρ x) (ρ ix)).map fun v => (v, σ)
  | .makeSlice t l c => absMakeSlice P t (ρ l) (ρ c) σ
  | .makeInterface t x => match P.underlying t with
    | none | some (.interface _) => none
    | some _ => some (.iface t (ρ x), σ)
  | .makeFunc (.func f) first caps => bif first.isEmpty then some (.func (.func f) #[] (caps.map ρ), σ) else none
  | _ => none

/-! ### It is what the model does -/
/-- What an operation that is no call comes to. -/
theorem wp_value {P : Program} {o : Oper} {a : Act} {w w' : World} {K : Act → World → Prop} {Q : Exit → Act → World → Prop} {v : Value} (h : (execOp a.eval o).run P w = .ok (.value v) w') (hk : K (a.put o.dst v) w') : o.wp P a w K Q := by
  unfold Oper.wp; rw [h]; exact hk
theorem wp_skip' {P : Program} {o : Oper} {a : Act} {w w' : World} {K : Act → World → Prop} {Q : Exit → Act → World → Prop} (h : (execOp a.eval o).run P w = .ok .skip w') (hk : K (a.put o.dst undef) w') : o.wp P a w K Q := by
  unfold Oper.wp; rw [h]; exact hk
theorem wp_enter {P : Program} {o : Oper} {a : Act} {w w' : World} {K : Act → World → Prop} {Q : Exit → Act → World → Prop} {f : FuncId} {args : Array Value} (h : (execOp a.eval o).run P w = .ok (.enter f args) w')
    (hc : Calls P f args w' fun e w'' => ∃ v, e = .returned v ∧ K (a.put o.dst v) w'') : o.wp P a w K Q := by
  unfold Oper.wp; rw [h]
  refine Calls.mono hc ?_
  rintro e w'' ⟨v, rfl, hk⟩
  exact hk

/-- All that an operation's soundness is stated over. -/
structure Ctx (P : Program) (call : Caller) (r : Ren) (σ : AHeap) (w : World) (ρ : Operand → Value) (a : Act) : Prop where
  hN : NoNum P
  hc : CallOK P call
  h : WRel r σ w
  ev : ∀ x, VRel r (ρ x) (a.eval x)

/-- What is to be shown. -/
def Goal (P : Program) (o : Oper) (r : Ren) (σ : AHeap) (w : World) (a : Act) (v : Value) (σ' : AHeap) : Prop :=
  ∀ (K : Act → World → Prop) (Q : Exit → Act → World → Prop), (∀ r' w' v', Step r σ w r' σ' w' → VRel r' v v' → K (a.put o.dst v') w') → o.wp P a w K Q

theorem Goal.of_run {P : Program} {o : Oper} {r r' : Ren} {σ σ' : AHeap} {w w' : World} {a : Act} {v v' : Value} (h : (execOp a.eval o).run P w = .ok (.value v') w') (hs : Step r σ w r' σ' w') (hv : VRel r' v v') : Goal P o r σ w a v σ' :=
  fun K Q hk => wp_value h (hk r' w' v' hs hv)

theorem args_rel {r : Ren} {ρ ρ' : Operand → Value} (h : ∀ x, VRel r (ρ x) (ρ' x)) : ∀ l : List Operand, LRel r (l.map ρ) (l.map ρ')
  | [] => .nil r
  | x :: l => .cons (h x) (args_rel h l)
theorem parts_rel {r : Ren} {ρ ρ' : Operand → Value} (h : ∀ x, VRel r (ρ x) (ρ' x)) : ∀ l : List (Nat × Operand), PRel r (l.map fun p => (p.1, ρ p.2)) (l.map fun p => (p.1, ρ' p.2))
  | [] => trivial
  | x :: l => ⟨rfl, h x.2, parts_rel h l⟩

theorem call_ok {P : Program} {call : Caller} {r : Ren} {σ σ' : AHeap} {w : World} {ρ : Operand → Value} {a : Act} {o : Oper} {c : Call} {v : Value} (C : Ctx P call r σ w ρ a) (ho : o.op = .call c) (ha : absCallOp P call ρ c σ = some (v, σ')) (hob : σ'.obl.all id = true) : Goal P o r σ w a v σ' := by
  have hargs := args_rel C.ev c.args.toList
  have hargsA : (c.args.map a.eval).toList = c.args.toList.map a.eval := by simp
  have enter : ∀ (f : FuncId) (args : List Value) (args' : Array Value), (execOp a.eval o).run P w = .ok (.enter f args') w → LRel r args args'.toList → call f args σ = some (v, σ') → Goal P o r σ w a v σ' := by
    intro f args args' h1 h2 h3 K Q hk
    refine wp_enter h1 ((C.hc f args σ v σ' h3 hob r w args' C.h h2).mono ?_)
    rintro e w'' ⟨v', r', rfl, hs, hv⟩
    exact ⟨v', rfl, hk r' w'' v' hs hv⟩
  unfold absCallOp at ha
  cases hcal : c.callee with
  | value f =>
    rw [hcal] at ha
    simp only at ha
    split at ha
    · rename_i k first caps heq
      by_cases hb : hasBody P k = true
      · rw [hb, cond_true] at ha
        have hf := C.ev f
        rw [heq] at hf
        obtain ⟨k', caps', e1, e2, e3, hl⟩ := hf.func_inv
        cases e1
        refine enter k _ ((c.args.map a.eval) ++ caps') ?_ ?_ ha
        · simp only [execOp, ho, resolve, hcal, Deferred.ofValue, e3, Sem.run_bind, Sem.run_pure, Result.andThen_ok, invoke, run_callFunc C.hN hb, Array.empty_append]
        · simpa using hargs.append hl
      · simp only [Bool.not_eq_true] at hb; rw [hb, cond_false] at ha; simp at ha
    · simp at ha
  | invoke recv name =>
    rw [hcal] at ha
    simp only at ha
    unfold absInvoke at ha
    split at ha
    · rename_i t u heq
      split at ha
      · rename_i m hm
        split at ha
        · rename_i k pt hfun hu
          by_cases hb : (m.path.isEmpty && hasBody P k && solid u) = true
          · rw [hb, cond_true] at ha
            simp only [Bool.and_eq_true] at hb
            obtain ⟨⟨b1, b2⟩, b3⟩ := hb
            have hf := C.ev recv
            rw [heq] at hf
            obtain ⟨u', e1, hu'⟩ := hf.iface_inv
            obtain ⟨i, hi, hfind⟩ := Option.bind_eq_some_iff.1 hm
            have hpath : m.path.toList = [] := by simpa using b1
            refine enter k _ (#[u'] ++ c.args.map a.eval) ?_ ?_ ha
            · have hmeth : ∀ n, (method (n + 1) t u' name).run P w = .ok (k, u') w := by
                intro n
                have hi' : (typeInfo t).run P w = .ok i w := by simp [typeInfo, program, Sem.run, hi]
                simp only [method, Sem.run_bind, hi', Result.andThen_ok, hfind, hpath, follow, Sem.run_pure, hfun, receiverAt, run_underlying hu, Place.get]
              have hargs0 : (#[u'] ++ c.args.map a.eval : Array Value) = #[u'] ++ c.args.map a.eval := rfl
              have hm2 := hmeth (P.types.size + 99)
              have hd : P.types.size + Made.depth = P.types.size + 99 + 1 := rfl
              simp only [execOp, ho, resolve, hcal, Sem.run_bind, Sem.run_pure, Result.andThen_ok, invoke, e1]
              have g0 : (#[Value.iface t u'] ++ Array.map a.eval c.args)[0]? = some (.iface t u') := by
                rw [Array.getElem?_append_left (by simp)]; rfl
              have g1 : (#[Value.iface t u'] ++ Array.map a.eval c.args).extract 1 (#[Value.iface t u'] ++ Array.map a.eval c.args).size = Array.map a.eval c.args := by
                apply Array.ext'
                simp only [Array.toList_extract, Array.toList_append, List.extract_eq_take_drop]
                simp
                exact List.take_of_length_le (by simp)
              simp only [g0, g1, callMethod, program, Sem.run_bind, Sem.run, Result.andThen_ok, hd, hm2, run_callFunc C.hN b2]
            · simpa using LRel.cons hu' hargs
          · simp only [Bool.not_eq_true] at hb; rw [hb, cond_false] at ha; simp at ha
        · simp at ha
      · simp at ha
    · simp at ha
  | builtin b =>
    rw [hcal] at ha
    simp only at ha
    have hrun : ∀ s : Sem Value, (∀ q, builtin b c.argTypes o.type q (c.args.map a.eval) = (do pure (.value (← s)))) → ∀ v' w', s.run P w = .ok v' w' → (execOp a.eval o).run P w = .ok (.value v') w' := by
      intro s hs v' w' h
      simp only [execOp, ho, resolve, hcal, Sem.run_bind, Sem.run_pure, Result.andThen_ok, invoke, hs, h]
    have hts : c.argTypes = c.argTypes.toList.toArray := by simp
    have hxs : c.args.map a.eval = (c.args.toList.map a.eval).toArray := by
      apply Array.ext'; simp
    generalize hT : c.argTypes.toList = T at ha hts
    generalize hX : c.args.toList.map ρ = X at ha hargs
    generalize hX' : c.args.toList.map a.eval = X' at hargs hxs
    unfold absBuiltin at ha
    split at ha
    · rename_i t x
      obtain ⟨x', m, rfl, hx, hm⟩ := hargs.cons_left
      obtain rfl := hm.nil_left
      obtain ⟨v1, h1, h2⟩ := Option.map_eq_some_iff.1 ha
      simp only [Prod.mk.injEq] at h2
      obtain ⟨rfl, rfl⟩ := h2
      obtain ⟨k1, k2⟩ := len_ok (ty := o.type) C.h hx h1
      exact .of_run (hrun (Builtin.len_ #[t] o.type #[x']) (fun q => by rw [hts, hxs]; rfl) _ _ k1) (Step.refl C.h) k2
    · rename_i t x
      obtain ⟨x', m, rfl, hx, hm⟩ := hargs.cons_left
      obtain rfl := hm.nil_left
      obtain ⟨v1, h1, h2⟩ := Option.map_eq_some_iff.1 ha
      simp only [Prod.mk.injEq] at h2
      obtain ⟨rfl, rfl⟩ := h2
      obtain ⟨k1, k2⟩ := cap_ok (w := w) (ty := o.type) hx h1
      exact .of_run (hrun (Builtin.cap_ #[t] o.type #[x']) (fun q => by rw [hts, hxs]; rfl) _ _ k1) (Step.refl C.h) k2
    · rename_i s t x y
      obtain ⟨x', m, rfl, hx, hm⟩ := hargs.cons_left
      obtain ⟨y', m', rfl, hy, hm'⟩ := hm.cons_left
      obtain rfl := hm'.nil_left
      obtain ⟨v', r', w', k1, k2, k3⟩ := append_ok (ty := o.type) C.h hx hy ha
      exact .of_run (hrun (Builtin.append_ #[s, t] o.type #[x', y']) (fun q => by rw [hts, hxs]; rfl) _ _ k1) k2 k3
    · rename_i s t x y
      obtain ⟨x', m, rfl, hx, hm⟩ := hargs.cons_left
      obtain ⟨y', m', rfl, hy, hm'⟩ := hm.cons_left
      obtain rfl := hm'.nil_left
      obtain ⟨v', r', w', k1, k2, k3⟩ := copy_ok (xT := t) (ty := o.type) C.h hx hy ha
      exact .of_run (hrun (Builtin.copy_ #[s, t] o.type #[x', y']) (fun q => by rw [hts, hxs]; rfl) _ _ k1) k2 k3
    · by_cases hb : X.all (noPtr 8) = true
      · rw [hb, cond_true] at ha
        obtain ⟨v1, h1, h2⟩ := Option.map_eq_some_iff.1 ha
        simp only [Prod.mk.injEq] at h2
        obtain ⟨rfl, rfl⟩ := h2
        obtain ⟨k1, k2⟩ := pureVal_run w h1 r
        have he : X' = X := LRel.eq_of (fun v v' h hn => VRel.eq_of_noPtr 8 v v' h hn) hargs hb
        exact .of_run (hrun (Builtin.max_ #[] 0 X.toArray) (fun q => by rw [hxs, he]; rfl) _ _ k1) (Step.refl C.h) k2
      · simp only [Bool.not_eq_true] at hb; rw [hb, cond_false] at ha; simp at ha
    · by_cases hb : X.all (noPtr 8) = true
      · rw [hb, cond_true] at ha
        obtain ⟨v1, h1, h2⟩ := Option.map_eq_some_iff.1 ha
        simp only [Prod.mk.injEq] at h2
        obtain ⟨rfl, rfl⟩ := h2
        obtain ⟨k1, k2⟩ := pureVal_run w h1 r
        have he : X' = X := LRel.eq_of (fun v v' h hn => VRel.eq_of_noPtr 8 v v' h hn) hargs hb
        exact .of_run (hrun (Builtin.min_ #[] 0 X.toArray) (fun q => by rw [hxs, he]; rfl) _ _ k1) (Step.refl C.h) k2
      · simp only [Bool.not_eq_true] at hb; rw [hb, cond_false] at ha; simp at ha
    · simp at ha

end Go.Abs
