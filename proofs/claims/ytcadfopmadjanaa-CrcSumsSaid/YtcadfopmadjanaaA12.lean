/- A12: regions of operations whose order is drawn: the abstract machine goes in the text's order, each operation over what it may rely on in every order. General over the program. -/
import Derived.Test.YtcadfopmadjanaaA11
namespace Go.Abs
set_option linter.unusedVariables false
set_option linter.unusedSimpArgs false

/-! ### What is known of a region by its text -/
def isNonMem : Op → Bool
  | .move _ | .assign _ | .pick .. | .nilCheck _ | .binOp .. | .unOp .. | .fieldAddr .. | .field .. | .indexAddr .. | .index .. | .slice .. | .extract .. | .build .. | .makeInterface .. | .makeFunc .. => true
  | .call c => match c.callee with
    | .builtin .len | .builtin .cap | .builtin .max | .builtin .min => true
    | _ => false
  | _ => false

def edgeBits : List Edge → List Nat → Nat
  | [], _ => 0
  | e :: es, acc => bif Region.binds .any e then (2 ^ e.on ||| acc.getD e.on 0) ||| edgeBits es acc else edgeBits es acc
def predTab : List Oper → List Nat → List Nat
  | [], acc => acc
  | o :: rest, acc => predTab rest (acc ++ [edgeBits o.after.toList acc])

theorem edgeBits_spec (acc : List Nat) (k : Nat) : ∀ es : List Edge, (edgeBits es acc).testBit k = true ↔ ∃ e ∈ es, Region.binds .any e = true ∧ (k = e.on ∨ (acc.getD e.on 0).testBit k = true)
  | [] => by simp [edgeBits]
  | e :: es => by
    have ih := edgeBits_spec acc k es
    simp only [edgeBits]
    cases hb : Region.binds .any e with
    | false => simp [hb, ih]
    | true =>
      simp only [cond_true, Nat.testBit_or, Bool.or_eq_true, ih, Nat.testBit_two_pow, decide_eq_true_eq, List.mem_cons, exists_eq_or_imp, hb, true_and]
      constructor
      · rintro ((h | h) | h)
        · exact .inl (.inl h.symm)
        · exact .inl (.inr h)
        · exact .inr h
      · rintro ((h | h) | h)
        · exact .inl (.inl h.symm)
        · exact .inl (.inr h)
        · exact .inr h

theorem predTab_spec : ∀ (rest : List Oper) (acc : List Nat), (predTab rest acc).length = acc.length + rest.length ∧ (∀ i, i < acc.length → (predTab rest acc)[i]? = acc[i]?) ∧
    ∀ k o, rest[k]? = some o → (predTab rest acc)[acc.length + k]? = some (edgeBits o.after.toList ((predTab rest acc).take (acc.length + k)))
  | [], acc => by simp [predTab]
  | o :: rest, acc => by
    obtain ⟨h1, h2, h3⟩ := predTab_spec rest (acc ++ [edgeBits o.after.toList acc])
    simp only [predTab]
    refine ⟨by rw [h1]; simp; omega, ?_, ?_⟩
    · intro i hi
      rw [h2 i (by simp; omega), List.getElem?_append_left hi]
    · intro k o' hk
      cases k with
      | zero =>
        simp only [List.getElem?_cons_zero, Option.some.injEq] at hk
        subst hk
        rw [Nat.add_zero, h2 acc.length (by simp)]
        have : (predTab rest (acc ++ [edgeBits o.after.toList acc])).take acc.length = acc := by
          apply List.ext_getElem?
          intro i
          rw [List.getElem?_take]
          split
          · rename_i hi; rw [h2 i (by simp; omega), List.getElem?_append_left hi]
          · rw [List.getElem?_eq_none (by omega)]
        rw [this]; simp
      | succ k =>
        have := h3 k o' (by simpa using hk)
        rw [List.length_append, List.length_singleton] at this
        rw [show acc.length + (k + 1) = acc.length + 1 + k by omega]
        exact this

/-- Operation k is ahead of operation i. -/
def PB (ops : Array Oper) (i k : Nat) : Prop := ((predTab ops.toList []).getD i 0).testBit k = true

theorem PB.edge {ops : Array Oper} {i k : Nat} {o : Oper} (ho : ops[i]? = some o) (h : PB ops i k) : ∃ e ∈ o.after.toList, Region.binds .any e = true ∧ (k = e.on ∨ (e.on < i ∧ PB ops e.on k)) := by
  unfold PB at h
  obtain ⟨h1, h2, h3⟩ := predTab_spec ops.toList []
  have h4 := h3 i o (by rw [Array.getElem?_toList]; exact ho)
  simp only [List.length_nil, Nat.zero_add] at h4
  rw [List.getD_eq_getElem?_getD, h4, Option.getD_some] at h
  obtain ⟨e, he, hb, h5⟩ := (edgeBits_spec _ _ _).1 h
  refine ⟨e, he, hb, ?_⟩
  rcases h5 with h5 | h5
  · exact .inl h5
  · rw [List.getD_eq_getElem?_getD, List.getElem?_take] at h5
    split at h5
    · rename_i hlt
      exact .inr ⟨hlt, by unfold PB; rw [List.getD_eq_getElem?_getD]; exact h5⟩
    · simp at h5
theorem PB.of_edge {ops : Array Oper} {i : Nat} {o : Oper} (ho : ops[i]? = some o) {e : Edge} (he : e ∈ o.after.toList) (hb : Region.binds .any e = true) : PB ops i e.on := by
  obtain ⟨h1, h2, h3⟩ := predTab_spec ops.toList []
  have h4 := h3 i o (by rw [Array.getElem?_toList]; exact ho)
  simp only [List.length_nil, Nat.zero_add] at h4
  unfold PB
  rw [List.getD_eq_getElem?_getD, h4, Option.getD_some]
  exact (edgeBits_spec _ _ _).2 ⟨e, he, hb, .inl rfl⟩

def okDraw (ops : Array Oper) (L : List Nat) : Bool :=
  (List.range ops.size).all fun i =>
    Nat.blt (L.getD i 0) (2 ^ i) &&
    (List.range ops.size).all fun k =>
      Nat.beq i k ||
      ((match (ops.getD i default).dst, (ops.getD k default).dst with
        | some d, some e => !Nat.beq d e
        | _, _ => true) &&
       ((L.getD i 0).testBit k || (L.getD k 0).testBit i ||
         (match (ops.getD k default).dst with
          | some d => !((ops.getD i default).looksAt ops).contains d
          | none => true)))

def kindOf (ops : Array Oper) (L : List Nat) (i : Nat) : Nat :=
  bif isNonMem (ops.getD i default).op then 0 else
  bif (List.range ops.size).all (fun k => Nat.beq i k || isNonMem (ops.getD k default).op || (L.getD i 0).testBit k || (L.getD k 0).testBit i) then 2 else 1

/-- Of each operation its kind (0: no memory; 2: in order with all that touch memory; 1: else) and what is ahead of it. -/
def drawInfo (ops : Array Oper) : Option (List (Nat × Nat)) :=
  bif okDraw ops (predTab ops.toList []) then some ((List.range ops.size).map fun i => (kindOf ops (predTab ops.toList []) i, (predTab ops.toList []).getD i 0)) else none

/-! ### The text's order, with care -/
def restrictH (kind pr : Nat) (G : List (Nat × Nat × Nat)) (σ : AHeap) : AHeap :=
  bif Nat.beq kind 0 then { σ with hid := [(0, σ.next)], lim := σ.next }
  else bif Nat.beq kind 1 then { σ with hid := (G.filter fun x => !pr.testBit x.1).map (fun x => x.2) ++ σ.hid, lim := σ.next }
  else σ

def look (ops : Array Oper) (o : Oper) (glob : Nat) (τ : List Value) (x : Operand) : Value :=
  match x with
  | .tmp t => bif (o.looksAt ops).contains t then ev glob τ (.tmp t) else poison
  | x => ev glob τ x

def absDraw1 (P : Program) (call : Caller) (ops : Array Oper) (kind pr : Nat) (o : Oper) (τ : List Value) (σ : AHeap) (G : List (Nat × Nat × Nat)) : Option (Value × AHeap) :=
  match wantedL ops τ o with
  | some true => match absOpS P call (look ops o σ.glob τ) o (restrictH kind pr G σ) with
    | some (v, σ') => bif !Nat.beq kind 0 || Nat.beq σ'.next σ.next then some (v, { σ' with hid := σ.hid, lim := σ.lim }) else none
    | none => none
  | some false => some (undef, σ)
  | none => none

def dstOK (d : Option Nat) (n : Nat) : Bool :=
  match d with
  | some d => Nat.blt d n
  | none => true

def absDrawGo (P : Program) (call : Caller) (ops : Array Oper) : Nat → List (Oper × Nat × Nat) → List Value → AHeap → List (Nat × Nat × Nat) → Option (List Value × AHeap)
  | _, [], τ, σ, _ => some (τ, σ)
  | i, (o, kind, pr) :: rest, τ, σ, G =>
    match absDraw1 P call ops kind pr o τ σ G with
    | some (v, σ') =>
      bif dstOK o.dst τ.length then
        absDrawGo P call ops (i + 1) rest (putL τ o.dst v) σ' (bif Nat.beq kind 1 then (i, σ.next, σ'.next) :: G else G)
      else none
    | none => none

def absDraw (P : Program) (call : Caller) (ops : Array Oper) (τ : List Value) (σ : AHeap) : Option (List Value × AHeap) :=
  match drawInfo ops with
  | some info => absDrawGo P call ops 0 (ops.toList.zip info) τ σ []
  | none => none

/-! ### What one operation leaves alone -/
theorem draw1_astep {P : Program} {call : Caller} (hc : CallA call) {ops : Array Oper} {kind pr : Nat} {o : Oper} {τ : List Value} {σ σ' : AHeap} {G : List (Nat × Nat × Nat)} {v : Value} (h : absDraw1 P call ops kind pr o τ σ G = some (v, σ')) :
    AStep σ σ' ∧ (kind = 0 ∨ kind = 1 → ∀ n, n < σ.next → σ'.get n = σ.get n) ∧ (kind = 0 → σ'.next = σ.next) := by
  unfold absDraw1 at h
  split at h
  · split at h
    · rename_i v1 σ1 hop
      cases hb : (!Nat.beq kind 0 || Nat.beq σ1.next σ.next) with
      | false => rw [hb, cond_false] at h; simp at h
      | true =>
        rw [hb, cond_true] at h
        simp only [Option.some.injEq, Prod.mk.injEq] at h
        obtain ⟨rfl, rfl⟩ := h
        have A := opS_astep hc hop
        unfold restrictH at A
        by_cases h0 : kind = 0
        · subst h0
          rw [beq_of rfl, cond_true] at A
          have hn : σ1.next = σ.next := by simpa using hb
          have hall : ∀ n, n < σ.next → hidden [(0, σ.next)] n = true := by
            intro n hn; simp [hidden, Nat.ble_eq, Nat.blt_eq, hn]
          have hraw : ∀ n, n < σ.next → σ1.t.get n = σ.t.get n := fun n hn => A.raw n hn (hall n hn)
          have hget : ∀ n, n < σ.next → ({ σ1 with hid := σ.hid, lim := σ.lim } : AHeap).get n = σ.get n := by
            intro n hn; simp only [AHeap.get, hraw n hn]
          exact ⟨⟨A.next, rfl, rfl, A.gl, fun n _ hn => hget n hn, fun n hn _ => hraw n hn, fun n hn hd => by rw [hget n hn]; exact hd, A.sm, A.top, A.obl⟩, fun _ => hget, fun _ => hn⟩
        · by_cases h1 : kind = 1
          · subst h1
            rw [beq_ne h0, cond_false, beq_of rfl, cond_true] at A
            have hraw : ∀ n, n < σ.next → σ1.t.get n = σ.t.get n := by
              intro n hn
              cases hh : hidden ((G.filter fun x => !pr.testBit x.1).map (fun x => x.2) ++ σ.hid) n with
              | true => exact A.raw n hn hh
              | false =>
                have h2 := A.keep n hn hn
                simp only [AHeap.get] at h2
                rw [A.hid] at h2
                simp only [hh, cond_false] at h2
                exact h2
            have hget : ∀ n, n < σ.next → ({ σ1 with hid := σ.hid, lim := σ.lim } : AHeap).get n = σ.get n := by
              intro n hn; simp only [AHeap.get, hraw n hn]
            exact ⟨⟨A.next, rfl, rfl, A.gl, fun n _ hn => hget n hn, fun n hn _ => hraw n hn, fun n hn hd => by rw [hget n hn]; exact hd, A.sm, A.top, A.obl⟩, fun _ => hget, fun h => absurd h (by omega)⟩
          · rw [beq_ne h0, cond_false, beq_ne h1, cond_false] at A
            have e : ({ σ1 with hid := σ.hid, lim := σ.lim } : AHeap) = σ1 := by rw [← A.hid, ← A.lim]
            rw [e]
            exact ⟨A, fun h => by omega, fun h => by omega⟩
    · simp at h
  · simp only [Option.some.injEq, Prod.mk.injEq] at h
    obtain ⟨_, rfl⟩ := h
    exact ⟨.refl _, fun _ _ _ => rfl, fun _ => rfl⟩
  · simp at h

theorem drawGo_astep {P : Program} {call : Caller} (hc : CallA call) {ops : Array Oper} : ∀ (l : List (Oper × Nat × Nat)) (i : Nat) (τ τ' : List Value) (σ σ' : AHeap) (G : List (Nat × Nat × Nat)), absDrawGo P call ops i l τ σ G = some (τ', σ') → AStep σ σ'
  | [], i, τ, τ', σ, σ', G, h => by
    simp only [absDrawGo, Option.some.injEq, Prod.mk.injEq] at h
    obtain ⟨_, rfl⟩ := h
    exact .refl _
  | (o, kind, pr) :: l, i, τ, τ', σ, σ', G, h => by
    unfold absDrawGo at h
    split at h
    · rename_i v σ1 h1
      cases hd : dstOK o.dst τ.length with
      | true => rw [hd, cond_true] at h; exact (draw1_astep hc h1).1.trans (drawGo_astep hc l _ _ _ _ _ _ h)
      | false => rw [hd, cond_false] at h; simp at h
    · simp at h
theorem draw_astep {P : Program} {call : Caller} (hc : CallA call) {ops : Array Oper} {τ τ' : List Value} {σ σ' : AHeap} (h : absDraw P call ops τ σ = some (τ', σ')) : AStep σ σ' := by
  unfold absDraw at h
  split at h
  · exact drawGo_astep hc _ _ _ _ _ _ _ h
  · simp at h

/-! ### The run in the text's order, place by place -/
/-- What the run in the text's order shows of each place. -/
structure Trace (P : Program) (call : Caller) (ops : Array Oper) (kind pr : Nat → Nat) (T : Nat → List Value) (S : Nat → AHeap) (V : Nat → Value) (G : Nat → List (Nat × Nat × Nat)) : Prop where
  g0 : G 0 = []
  one : ∀ i o, ops[i]? = some o → absDraw1 P call ops (kind i) (pr i) o (T i) (S i) (G i) = some (V i, S (i + 1))
  tm : ∀ i o, ops[i]? = some o → T (i + 1) = putL (T i) o.dst (V i)
  gg : ∀ i o, ops[i]? = some o → G (i + 1) = bif Nat.beq (kind i) 1 then (i, (S i).next, (S (i + 1)).next) :: G i else G i
  ds : ∀ i o d, ops[i]? = some o → o.dst = some d → d < (T i).length

theorem go_trace {P : Program} {call : Caller} {ops : Array Oper} : ∀ (l : List (Oper × Nat × Nat)) (i : Nat) (τ τ' : List Value) (σ σ' : AHeap) (G : List (Nat × Nat × Nat)), absDrawGo P call ops i l τ σ G = some (τ', σ') →
    ∃ (T : Nat → List Value) (S : Nat → AHeap) (V : Nat → Value) (H : Nat → List (Nat × Nat × Nat)), T i = τ ∧ S i = σ ∧ H i = G ∧ T (i + l.length) = τ' ∧ S (i + l.length) = σ' ∧
      ∀ k o kd pr, l[k]? = some (o, kd, pr) → absDraw1 P call ops kd pr o (T (i + k)) (S (i + k)) (H (i + k)) = some (V (i + k), S (i + k + 1)) ∧ T (i + k + 1) = putL (T (i + k)) o.dst (V (i + k)) ∧
        H (i + k + 1) = (bif Nat.beq kd 1 then (i + k, (S (i + k)).next, (S (i + k + 1)).next) :: H (i + k) else H (i + k)) ∧ ∀ d, o.dst = some d → d < (T (i + k)).length
  | [], i, τ, τ', σ, σ', G, h => by
    simp only [absDrawGo, Option.some.injEq, Prod.mk.injEq] at h
    obtain ⟨rfl, rfl⟩ := h
    exact ⟨fun _ => τ, fun _ => σ, fun _ => undef, fun _ => G, rfl, rfl, rfl, rfl, rfl, by simp⟩
  | (o, kind, pr) :: l, i, τ, τ', σ, σ', G, h => by
    unfold absDrawGo at h
    split at h
    · rename_i v σ1 h1
      cases hd : dstOK o.dst τ.length with
      | false => rw [hd, cond_false] at h; simp at h
      | true =>
        rw [hd, cond_true] at h
        obtain ⟨T, S, V, H, e1, e2, e3, e4, e5, e6⟩ := go_trace l _ _ _ _ _ _ h
        refine ⟨fun j => if j = i then τ else T j, fun j => if j = i then σ else S j, fun j => if j = i then v else V j, fun j => if j = i then G else H j, by simp, by simp, by simp, ?_, ?_, ?_⟩
        · simp only [List.length_cons]
          rw [if_neg (by omega), show i + (l.length + 1) = i + 1 + l.length by omega]; exact e4
        · simp only [List.length_cons]
          rw [if_neg (by omega), show i + (l.length + 1) = i + 1 + l.length by omega]; exact e5
        · intro k o' kd' pr' hk
          cases k with
          | zero =>
            simp only [List.getElem?_cons_zero, Option.some.injEq, Prod.mk.injEq] at hk
            obtain ⟨rfl, rfl, rfl⟩ := hk
            simp only [Nat.add_zero, if_true, show ¬ (i + 1 = i) by omega, if_false, e1, e2, e3]
            refine ⟨h1, by first | trivial | rfl, by first | trivial | rfl, fun d hdd => ?_⟩
            rw [hdd] at hd
            simpa [dstOK, Nat.blt_eq] using hd
          | succ k =>
            have := e6 k o' kd' pr' (by simpa using hk)
            rw [show i + (k + 1) = i + 1 + k by omega]
            simp only [show ¬ (i + 1 + k = i) by omega, show ¬ (i + 1 + k + 1 = i) by omega, if_false]
            exact this
    · simp at h

theorem drawTrace {P : Program} {call : Caller} {ops : Array Oper} {τ τ' : List Value} {σ σ' : AHeap} (h : absDraw P call ops τ σ = some (τ', σ')) :
    okDraw ops (predTab ops.toList []) = true ∧ ∃ T S V G, Trace P call ops (kindOf ops (predTab ops.toList [])) (fun i => (predTab ops.toList []).getD i 0) T S V G ∧ T 0 = τ ∧ S 0 = σ ∧ T ops.size = τ' ∧ S ops.size = σ' := by
  unfold absDraw at h
  split at h
  · rename_i info hi
    unfold drawInfo at hi
    cases hok : okDraw ops (predTab ops.toList []) with
    | false => rw [hok, cond_false] at hi; simp at hi
    | true =>
      rw [hok, cond_true] at hi
      obtain rfl := Option.some.inj hi
      obtain ⟨T, S, V, H, e1, e2, e3, e4, e5, e6⟩ := go_trace _ 0 _ _ _ _ _ h
      have hlen : (ops.toList.zip ((List.range ops.size).map fun i => (kindOf ops (predTab ops.toList []) i, (predTab ops.toList []).getD i 0))).length = ops.size := by simp
      rw [hlen, Nat.zero_add] at e4 e5
      have hk : ∀ i o, ops[i]? = some o → (ops.toList.zip ((List.range ops.size).map fun i => (kindOf ops (predTab ops.toList []) i, (predTab ops.toList []).getD i 0)))[i]? = some (o, kindOf ops (predTab ops.toList []) i, (predTab ops.toList []).getD i 0) := by
        intro i o ho
        have hlt : i < ops.size := by
          by_cases hlt : i < ops.size
          · exact hlt
          · rw [Array.getElem?_eq_none (by omega)] at ho; simp at ho
        rw [List.getElem?_zip_eq_some]
        refine ⟨by rw [Array.getElem?_toList]; exact ho, ?_⟩
        rw [List.getElem?_map, List.getElem?_range hlt]; rfl
      refine ⟨by first | rfl | trivial, T, S, V, H, ⟨e3, ?_, ?_, ?_, ?_⟩, e1, e2, e4, e5⟩
      · intro i o ho; have := (e6 i o _ _ (hk i o ho)).1; simpa using this
      · intro i o ho; have := (e6 i o _ _ (hk i o ho)).2.1; simpa using this
      · intro i o ho; have := (e6 i o _ _ (hk i o ho)).2.2.1; simpa using this
      · intro i o d ho hd; have := (e6 i o _ _ (hk i o ho)).2.2.2 d hd; simpa using this
  · simp at h

end Go.Abs
