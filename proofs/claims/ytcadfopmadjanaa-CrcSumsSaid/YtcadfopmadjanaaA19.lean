/- A19: code whose length of run is not known: what it is shown to end in, by rules; calls with rows of the caller. General over the program. -/
import Derived.Test.YtcadfopmadjanaaA18
namespace Go.Abs
open Go.RowKit
set_option linter.unusedVariables false
set_option linter.unusedSimpArgs false

/-- From an abstract state the code ends in one of these. -/
def Shows (P : Program) (c : Code) (τ : List Value) (σ : AHeap) (R : Out → List Value → AHeap → Prop) : Prop :=
  ∀ (r : Ren) (w : World) (a : Act), WRel r σ w → TRel r τ a → ∀ Q : Exit → Act → World → Prop, (∀ out τ' σ', R out τ' σ' → Post r σ w a out τ' σ' Q) → c.wp P Q a w

theorem Shows.mono {P : Program} {c : Code} {τ : List Value} {σ : AHeap} {R R' : Out → List Value → AHeap → Prop} (h : Shows P c τ σ R) (hR : ∀ o t s, R o t s → R' o t s) : Shows P c τ σ R' :=
  fun r w a hw ht Q hq => h r w a hw ht Q fun o t s ho => hq o t s (hR o t s ho)

/-- Two heaps that differ by what is noted and by hints alone. -/
structure EqH (σ τ : AHeap) : Prop where
  t : τ.t = σ.t
  next : τ.next = σ.next
  lim : τ.lim = σ.lim
  hid : τ.hid = σ.hid
  glob : τ.glob = σ.glob
theorem EqH.symm {σ τ : AHeap} (h : EqH σ τ) : EqH τ σ := ⟨h.t.symm, h.next.symm, h.lim.symm, h.hid.symm, h.glob.symm⟩
theorem EqH.get {σ τ : AHeap} (h : EqH σ τ) (n : Nat) : τ.get n = σ.get n := by simp only [AHeap.get, h.t, h.hid]
theorem EqH.wrel {σ τ : AHeap} (h : EqH σ τ) {r : Ren} {w : World} (hw : WRel r σ w) : WRel r τ w := by
  refine ⟨by rw [h.next]; exact hw.small, fun n b hn => by rw [h.next]; exact hw.lt n b hn, hw.fn, fun n m b hn hm => ?_, fun n o ho => ?_, fun g hg => ?_, fun n hn => ?_, fun n b hn hl => hw.wr n b hn (by rw [h.lim] at hl; exact hl), hw.rob⟩
  · rw [h.get] at hn hm; exact hw.inj n m b hn hm
  · rw [h.get] at ho; exact hw.obj n o ho
  · rw [h.glob] at hg; exact hw.glob g hg
  · rw [h.next] at hn; rw [h.t]; exact hw.top n hn
theorem Step.eqR {r r' : Ren} {σ σ' τ : AHeap} {w w' : World} (h : Step r σ w r' σ' w') (s : EqH σ' τ) : Step r σ w r' τ w' where
  le := h.le
  fresh := h.fresh
  rel := s.wrel h.rel
  size := h.size
  frame := h.frame
  dead := fun n hn hd => by rw [s.get]; exact h.dead n hn hd
  keep := fun n hl hn => by rw [s.get]; exact h.keep n hl hn
  next := by rw [s.next]; exact h.next
  lim := s.lim.trans h.lim
  hid := s.hid.trans h.hid
  gl := s.glob.trans h.gl
  os := h.os
  tape := h.tape
  output := h.output
theorem Step.eqL {r r' : Ren} {σ σ' τ : AHeap} {w w' : World} (h : Step r σ w r' σ' w') (s : EqH σ τ) : Step r τ w r' σ' w' where
  le := h.le
  fresh := fun n b hn => by rw [s.next]; rcases h.fresh n b hn with h1 | ⟨h1, h2 | ⟨m, h3, h4, h5⟩⟩; exact .inl h1; exact .inr ⟨h1, .inl h2⟩; exact .inr ⟨h1, .inr ⟨m, h3, by rw [s.get]; exact h4, by rw [s.lim]; exact h5⟩⟩
  rel := h.rel
  size := h.size
  frame := fun b hb hd => h.frame b hb fun n hn => by have := hd n hn; rw [s.get, s.lim] at this; exact this
  dead := fun n hn hd => h.dead n (by rw [s.next] at hn; exact hn) (by rw [s.get] at hd; exact hd)
  keep := fun n hl hn => by rw [s.get]; exact h.keep n (by rw [s.lim] at hl; exact hl) (by rw [s.next] at hn; exact hn)
  next := by rw [s.next]; exact h.next
  lim := by rw [s.lim]; exact h.lim
  hid := by rw [s.hid]; exact h.hid
  gl := by rw [s.glob]; exact h.gl
  os := h.os
  tape := h.tape
  output := h.output

theorem Post.eqH {r : Ren} {σ τ : AHeap} {w : World} {a : Act} {out : Out} {τ' : List Value} {σ' : AHeap} {Q : Exit → Act → World → Prop} (s : EqH σ τ) (h : Post r σ w a out τ' σ' Q) : Post r τ w a out τ' σ' Q :=
  fun r' w' a' h1 h2 h3 => h r' w' a' (h1.eqL s.symm) h2 h3
theorem Shows.eqH {P : Program} {c : Code} {τ : List Value} {σ σ2 : AHeap} {R : Out → List Value → AHeap → Prop} (s : EqH σ σ2) (h : Shows P c τ σ2 R) : Shows P c τ σ R :=
  fun r w a hw ht Q hq => h r w a (s.wrel hw) ht Q fun o t s' ho => (hq o t s' ho).eqH s

/-! ### What of the frame is kept -/
def maskL : List Bool → List Value → List Value
  | k :: ks, v :: vs => (bif k then v else poison) :: maskL ks vs
  | [], vs => vs
  | _, [] => []
theorem maskL_length : ∀ (ks : List Bool) (vs : List Value), (maskL ks vs).length = vs.length
  | k :: ks, v :: vs => by simp [maskL, maskL_length ks vs]
  | [], vs => by cases vs <;> rfl
  | _ :: _, [] => rfl
theorem maskL_rel {r : Ren} : ∀ (ks : List Bool) {vs us : List Value}, LRel r vs us → LRel r (maskL ks vs) us
  | k :: ks, v :: vs, us, h => by
    obtain ⟨b, m, rfl, hab, hm⟩ := h.cons_left
    simp only [maskL]
    refine .cons ?_ (maskL_rel ks hm)
    cases k
    · exact .poison b
    · exact hab
  | [], vs, us, h => by cases vs <;> exact h
  | _ :: _, [], us, h => h
/-- Of n places those in the list. -/
def keepL (n : Nat) (l : List Nat) : List Bool := (List.range n).map fun i => l.any (Nat.beq i)

/-- A run, of which the frame's places that are kept, the heap, and what was noted are told. -/
def runM (P : Program) (call : Caller) (n : Nat) (c : Code) (ks : List Bool) (hs : List (Option Bool)) (τ : List Value) (σ : AHeap) : Option (Out × List Value × AHeap × Bool) :=
  match absCode P call n c τ { σ with hints := hs, obl := [] } with
  | some (o, t, s) => some (o, maskL ks t, { s with hints := [], obl := [] }, s.obl.all id)
  | none => none

/-- What is known of a program and of the way it calls. -/
structure Good (P : Program) (call : Caller) : Prop where
  num : NoNum P
  ok : CallOK P call
  st : CallA call
  mixed : P.follows .mixedOrders = true

theorem Good.of {P : Program} {ora : Oracle} (ho : OraOK P ora) (hN : NoNum P) (hm : P.follows .mixedOrders = true) (n : Nat) : Good P (absCall P ora n) := ⟨hN, abs_ok ho hN hm n, call_astep ho n, hm⟩

theorem Shows.run {P : Program} {call : Caller} (G : Good P call) {n : Nat} {c : Code} {ks : List Bool} {hs : List (Option Bool)} {τ τ' : List Value} {σ σ' : AHeap} {out : Out} {obl : Bool}
    (h : runM P call n c ks hs τ σ = some (out, τ', σ', obl)) (hob : obl = true) : Shows P c τ σ (fun o t s => o = out ∧ t = τ' ∧ s = σ') := by
  unfold runM at h
  split at h
  · rename_i o t s hc
    simp only [Option.some.injEq, Prod.mk.injEq] at h
    obtain ⟨rfl, rfl, rfl, rfl⟩ := h
    refine Shows.eqH (σ2 := { σ with hints := hs, obl := [] }) ⟨rfl, rfl, rfl, rfl, rfl⟩ ?_
    intro r w a hw ht Q hq
    refine (code_ok G.num G.ok G.st G.mixed n c τ t _ s o hc hob r w a hw ht Q ?_).1
    intro r' w' a' h1 h2 h3
    exact hq o (maskL ks t) { s with hints := [], obl := [] } ⟨rfl, rfl, rfl⟩ r' w' a' (h1.eqR ⟨rfl, rfl, rfl, rfl, rfl⟩) (maskL_rel ks h2) h3
  · simp at h

theorem Shows.seq {P : Program} {x y : Code} {τ : List Value} {σ : AHeap} {R1 R : Out → List Value → AHeap → Prop} (h : Shows P x τ σ R1) (hn : ∀ t s, R1 .normal t s → Shows P y t s R) (ho : ∀ o t s, R1 o t s → o ≠ .normal → R o t s) : Shows P (.seq x y) τ σ R := by
  intro r w a hw ht Q hq
  refine wp_seq (h r w a hw ht _ ?_)
  intro out τ1 σ1 h1 r1 w1 a1 hs ht1 hd
  cases out with
  | normal => exact hn _ _ h1 r1 w1 a1 hs.rel ht1 Q fun o t s ho => (hq o t s ho).step hw hs hd
  | exit id => exact hq _ _ _ (ho _ _ _ h1 (by simp)) r1 w1 a1 hs ht1 hd
  | ret => exact hq _ _ _ (ho _ _ _ h1 (by simp)) r1 w1 a1 hs ht1 hd

theorem Shows.block {P : Program} {id : Nat} {b : Code} {τ : List Value} {σ : AHeap} {R1 R : Out → List Value → AHeap → Prop} (h : Shows P b τ σ R1)
    (he : ∀ t s, R1 (.exit id) t s → R .normal t s) (ho : ∀ o t s, R1 o t s → o ≠ .exit id → R o t s) : Shows P (.block id b) τ σ R := by
  intro r w a hw ht Q hq
  refine wp_block (h r w a hw ht _ ?_)
  intro out τ1 σ1 h1 r1 w1 a1 hs ht1 hd
  cases out with
  | normal => exact hq _ _ _ (ho _ _ _ h1 (by simp)) r1 w1 a1 hs ht1 hd
  | ret => exact hq _ _ _ (ho _ _ _ h1 (by simp)) r1 w1 a1 hs ht1 hd
  | exit id' =>
    simp only [Out.toExit, Exit.inBlock]
    by_cases he' : id' = id
    · subst he'
      rw [if_pos rfl]
      exact hq _ _ _ (he _ _ h1) r1 w1 a1 hs ht1 hd
    · rw [if_neg he']
      exact hq _ _ _ (ho _ _ _ h1 (by simp [he'])) r1 w1 a1 hs ht1 hd

theorem Shows.cond {P : Program} {c : Operand} {x y : Code} {τ : List Value} {σ : AHeap} {R : Out → List Value → AHeap → Prop} {t : Bool} (hc : ev σ.glob τ c = .bool t) (hx : t = true → Shows P x τ σ R) (hy : t = false → Shows P y τ σ R) : Shows P (.cond c x y) τ σ R := by
  intro r w a hw ht Q hq
  have hv := ev_rel hw ht c
  rw [hc] at hv
  refine wp_cond (t := t) hv.bool_inv ?_
  cases t with
  | true => exact hx rfl r w a hw ht Q hq
  | false => exact hy rfl r w a hw ht Q hq

/-- Round after round: 'I' is kept, and its number goes down. -/
theorem Shows.loop {P : Program} {b : Code} {R : Out → List Value → AHeap → Prop} (I : Nat → List Value → AHeap → Prop)
    (step : ∀ m τ σ, I m τ σ → Shows P b τ σ (fun o t s => (o = .normal ∧ ∃ m', m' < m ∧ I m' t s) ∨ (o ≠ .normal ∧ R o t s))) {m : Nat} {τ : List Value} {σ : AHeap} (h : I m τ σ) : Shows P (.loop b) τ σ R := by
  have key : ∀ m τ σ, I m τ σ → ∀ (r : Ren) (w : World) (a : Act), WRel r σ w → TRel r τ a → ∀ Q : Exit → Act → World → Prop, (∀ out τ' σ', R out τ' σ' → Post r σ w a out τ' σ' Q) → b.wp P (Exit.then (InLoopWp P b Q) Q) a w := by
    intro m
    induction m using Nat.strongRecOn with
    | _ m ih =>
      intro τ σ hI r w a hw ht Q hq
      refine step m τ σ hI r w a hw ht _ ?_
      rintro out τ1 σ1 (⟨rfl, m', hm, hI'⟩ | ⟨hne, hR⟩) r1 w1 a1 hs ht1 hd
      · exact inLoop_of (ih m' hm τ1 σ1 hI' r1 w1 a1 hs.rel ht1 Q fun o t s ho => (hq o t s ho).step hw hs hd)
      · have := hq _ _ _ hR r1 w1 a1 hs ht1 hd
        cases out with
        | normal => exact absurd rfl hne
        | exit id => exact this
        | ret => exact this
  intro r w a hw ht Q hq
  exact loop_of (key m τ σ h r w a hw ht Q hq)

/-- A function whose body is shown to end well. -/
theorem Shows.calls {P : Program} {f : FuncId} {fn : Func} {c : Code} (hf : P.funcs[f]? = some fn) (hb : fn.body = some c) {args : List Value} {σ : AHeap} {K : Value → AHeap → Prop}
    (h : Shows P c (args ++ List.replicate (fn.ntmps - args.length) undef) σ (fun o t s => (o = .normal ∨ o = .ret) ∧ ∃ l, resultsL P t s fn.results.toList = some l ∧ K (oneOf l) s))
    (r : Ren) (w : World) (args' : Array Value) (hw : WRel r σ w) (hargs : LRel r args args'.toList) :
    Calls P f args' w fun e w' => ∃ v v' r' σ', e = .returned v' ∧ K v σ' ∧ Step r σ w r' σ' w' ∧ VRel r' v v' := by
  have hsz : args.length = args'.size := by simpa using hargs.1
  have ht : TRel r (args ++ List.replicate (fn.ntmps - args.length) undef) { tmps := args' ++ Array.replicate (fn.ntmps - args'.size) undef, defers := [] } := by
    unfold TRel
    simp only [Array.toList_append, Array.toList_replicate]
    rw [hsz]
    refine hargs.append ?_
    refine ⟨rfl, fun i x y hx hy => ?_⟩
    rw [hx] at hy
    obtain rfl := Option.some.inj hy
    have := List.mem_of_getElem? hx
    rw [(List.mem_replicate.1 this).2]
    exact .undef r
  refine calls_of_wp hf hb (h r w _ hw ht _ ?_)
  rintro out τ1 σ1 ⟨hout, l, hl, hK⟩ r1 w1 a1 hs ht1 hd
  obtain ⟨l', k1, k2⟩ := results_ok hs.rel ht1 fn.results.toList l hl
  have hrun : (results fn a1.tmps).run P w1 = .ok (if h : l'.toArray.size = 1 then l'.toArray[0] else .tuple l'.toArray) w1 := by
    rw [results_eq, Array.mapM_eq_mapM_toList]
    simp only [Sem.run_bind, Sem.run_map, Sem.run_pure, k1, Result.andThen_ok]
  rcases hout with rfl | rfl
  · exact ⟨hd, _, hrun, _, _, r1, σ1, rfl, hK, hs, oneOf_rel k2⟩
  · exact ⟨hd, _, hrun, _, _, r1, σ1, rfl, hK, hs, oneOf_rel k2⟩
end Go.Abs
