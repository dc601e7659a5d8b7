/- A13: whatever order is drawn, a region comes to what the abstract machine finds in the text's order. General over the program. -/
import Derived.Test.YtcadfopmadjanaaA12
namespace Go.Abs
set_option linter.unusedVariables false
set_option linter.unusedSimpArgs false
set_option linter.unusedSectionVars false

theorem lt_of_op {ops : Array Oper} {i : Nat} {o : Oper} (h : ops[i]? = some o) : i < ops.size := by
  by_cases hlt : i < ops.size
  · exact hlt
  · rw [Array.getElem?_eq_none (by omega)] at h; simp at h

/-! ### The region's text -/
section
variable {ops : Array Oper} (hok : okDraw ops (predTab ops.toList []) = true)
include hok
theorem ok_lt {i k : Nat} (hi : i < ops.size) (h : PB ops i k) : k < i := by
  unfold okDraw at hok
  have h1 := List.all_eq_true.1 hok i (List.mem_range.2 hi)
  simp only [Bool.and_eq_true, Nat.blt_eq] at h1
  unfold PB at h
  by_cases hki : k < i
  · exact hki
  · have h2 : (predTab ops.toList []).getD i 0 < 2 ^ k := Nat.lt_of_lt_of_le h1.1 (Nat.pow_le_pow_right (by decide) (by omega))
    rw [Nat.testBit_lt_two_pow h2] at h; simp at h
theorem ok_pair {i k : Nat} {x y : Oper} (hx : ops[i]? = some x) (hy : ops[k]? = some y) (hne : i ≠ k) :
    (∀ d, x.dst = some d → y.dst = some d → False) ∧ (PB ops i k ∨ PB ops k i ∨ ∀ d, y.dst = some d → (x.looksAt ops).contains d = false) := by
  unfold okDraw at hok
  have hi := lt_of_op hx
  have hk := lt_of_op hy
  have h1 := List.all_eq_true.1 hok i (List.mem_range.2 hi)
  simp only [Bool.and_eq_true] at h1
  have h2 := List.all_eq_true.1 h1.2 k (List.mem_range.2 hk)
  have gx : ops.getD i default = x := by simp [Array.getD_eq_getD_getElem?, hx]
  have gy : ops.getD k default = y := by simp [Array.getD_eq_getD_getElem?, hy]
  rw [gx, gy] at h2
  simp only [Bool.or_eq_true, Bool.and_eq_true] at h2
  rcases h2 with h2 | ⟨h2, h3⟩
  · exact absurd (Nat.eq_of_beq_eq_true h2) hne
  · constructor
    · intro d hd he
      rw [hd, he] at h2
      simp only [Bool.not_eq_true'] at h2
      have := Nat.beq_refl d
      have h4 : Nat.beq d d = true := beq_of rfl
      rw [h4] at h2; simp at h2
    · rcases h3 with (h3 | h3) | h3
      · exact .inl h3
      · exact .inr (.inl h3)
      · refine .inr (.inr fun d hd => ?_)
        rw [hd] at h3
        simpa using h3
end

/-- Does an operation touch memory? -/
def Mem (ops : Array Oper) (i : Nat) : Prop := ∃ o, ops[i]? = some o ∧ isNonMem o.op = false

theorem kind_cases (ops : Array Oper) (i : Nat) : (kindOf ops (predTab ops.toList []) i = 0 ∨ kindOf ops (predTab ops.toList []) i = 1) ∨ kindOf ops (predTab ops.toList []) i = 2 := by
  unfold kindOf
  cases isNonMem (ops.getD i default).op
  · rw [cond_false]
    cases (List.range ops.size).all (fun k => Nat.beq i k || isNonMem (ops.getD k default).op || ((predTab ops.toList []).getD i 0).testBit k || ((predTab ops.toList []).getD k 0).testBit i)
    · exact .inl (.inr rfl)
    · exact .inr rfl
  · exact .inl (.inl rfl)
theorem kind_zero {ops : Array Oper} {i : Nat} {o : Oper} (ho : ops[i]? = some o) : kindOf ops (predTab ops.toList []) i = 0 ↔ ¬ Mem ops i := by
  have go : ops.getD i default = o := by simp [Array.getD_eq_getD_getElem?, ho]
  unfold kindOf
  rw [go]
  cases hm : isNonMem o.op with
  | true => simp [Mem, ho, hm]
  | false =>
    rw [cond_false]
    have : Mem ops i := ⟨o, ho, hm⟩
    constructor
    · intro h
      revert h
      cases (List.range ops.size).all (fun k => Nat.beq i k || isNonMem (ops.getD k default).op || ((predTab ops.toList []).getD i 0).testBit k || ((predTab ops.toList []).getD k 0).testBit i) <;> simp
    · intro h; exact absurd this h
theorem kind_two {ops : Array Oper} {i k : Nat} (h : kindOf ops (predTab ops.toList []) i = 2) (hm : Mem ops k) (hne : i ≠ k) : PB ops i k ∨ PB ops k i := by
  unfold kindOf at h
  cases hn : isNonMem (ops.getD i default).op with
  | true => rw [hn, cond_true] at h; omega
  | false =>
    rw [hn, cond_false] at h
    cases hall : (List.range ops.size).all (fun k => Nat.beq i k || isNonMem (ops.getD k default).op || ((predTab ops.toList []).getD i 0).testBit k || ((predTab ops.toList []).getD k 0).testBit i) with
    | false => rw [hall, cond_false] at h; omega
    | true =>
      obtain ⟨o, ho, hmo⟩ := hm
      have h1 := List.all_eq_true.1 hall k (List.mem_range.2 (lt_of_op ho))
      have go : ops.getD k default = o := by simp [Array.getD_eq_getD_getElem?, ho]
      rw [go, hmo] at h1
      simp only [Bool.or_eq_true, Bool.or_false] at h1
      rcases h1 with (h1 | h1) | h1
      · exact absurd (Nat.eq_of_beq_eq_true h1) hne
      · exact .inl h1
      · exact .inr h1

/-! ### Facts of a trace -/
section
variable {P : Program} {call : Caller} {ops : Array Oper} {T : Nat → List Value} {S : Nat → AHeap} {V : Nat → Value} {G : Nat → List (Nat × Nat × Nat)}
  (hc : CallA call) (hok : okDraw ops (predTab ops.toList []) = true) (tr : Trace P call ops (kindOf ops (predTab ops.toList [])) (fun i => (predTab ops.toList []).getD i 0) T S V G)

theorem op_at {i : Nat} (h : i < ops.size) : ∃ o, ops[i]? = some o := ⟨ops[i], Array.getElem?_eq_getElem h⟩

include hc tr in
theorem tr_astep {i j : Nat} (hij : i ≤ j) (hj : j ≤ ops.size) : AStep (S i) (S j) := by
  induction j with
  | zero => obtain rfl : i = 0 := by omega
            exact .refl _
  | succ j ih =>
    by_cases h : i = j + 1
    · subst h; exact .refl _
    · obtain ⟨o, ho⟩ := op_at (ops := ops) (show j < ops.size by omega)
      exact (ih (by omega) (by omega)).trans (draw1_astep hc (tr.one j o ho)).1

include hc tr in
/-- Between two places with no operation of kind 2 the heap keeps what it had. -/
theorem tr_keep {i j : Nat} (hij : i ≤ j) (hj : j ≤ ops.size) (hk : ∀ k, i ≤ k → k < j → kindOf ops (predTab ops.toList []) k ≠ 2) : ∀ n, n < (S i).next → (S j).get n = (S i).get n := by
  induction j with
  | zero => obtain rfl : i = 0 := by omega
            intro n _; rfl
  | succ j ih =>
    by_cases h : i = j + 1
    · subst h; intro n _; rfl
    · obtain ⟨o, ho⟩ := op_at (ops := ops) (show j < ops.size by omega)
      intro n hn
      have h1 := (tr_astep hc tr (show i ≤ j by omega) (by omega)).next
      have h2 := (draw1_astep hc (tr.one j o ho)).2.1 ((kind_cases ops j).resolve_right (hk j (by omega) (by omega))) n (by omega)
      rw [h2]
      exact ih (by omega) (by omega) (fun k h3 h4 => hk k h3 (by omega)) n hn

include tr in
theorem tr_len {i : Nat} (hi : i ≤ ops.size) : (T i).length = (T 0).length := by
  induction i with
  | zero => rfl
  | succ i ih =>
    obtain ⟨o, ho⟩ := op_at (ops := ops) (show i < ops.size by omega)
    rw [tr.tm i o ho, ← ih (by omega)]
    cases o.dst <;> simp [putL, setL_eq]

include tr in
theorem tr_old {t : Nat} {i : Nat} (hi : i ≤ ops.size) (h : ∀ k o, k < i → ops[k]? = some o → o.dst ≠ some t) : atT (T i) t = atT (T 0) t := by
  induction i with
  | zero => rfl
  | succ i ih =>
    obtain ⟨o, ho⟩ := op_at (ops := ops) (show i < ops.size by omega)
    rw [← ih (by omega) (fun k o hk => h k o (by omega)), tr.tm i o ho]
    have := h i o (by omega) ho
    cases hd : o.dst with
    | none => rfl
    | some d =>
      simp only [putL, atT, getL_eq, setL_eq]
      rw [List.getElem?_set_ne (by rintro rfl; exact this hd)]

include tr hok in
theorem tr_new {t : Nat} {i k : Nat} {o : Oper} (hi : i ≤ ops.size) (hk : k < i) (ho : ops[k]? = some o) (hd : o.dst = some t) : atT (T i) t = V k := by
  induction i with
  | zero => omega
  | succ i ih =>
    obtain ⟨o', ho'⟩ := op_at (ops := ops) (show i < ops.size by omega)
    by_cases h : k = i
    · subst h
      rw [ho] at ho'
      obtain rfl := Option.some.inj ho'
      rw [tr.tm k o ho, hd]
      simp only [putL, atT, getL_eq, setL_eq]
      rw [List.getElem?_set_self (tr.ds k o t ho hd)]; rfl
    · rw [← ih (by omega) (by omega), tr.tm i o' ho']
      cases hd' : o'.dst with
      | none => rfl
      | some d =>
        have := (ok_pair hok ho ho' h).1
        simp only [putL, atT, getL_eq, setL_eq]
        rw [List.getElem?_set_ne (by rintro rfl; exact this d hd hd')]

include tr in
theorem tr_G {i : Nat} (hi : i ≤ ops.size) (k a b : Nat) : (k, a, b) ∈ G i ↔ k < i ∧ kindOf ops (predTab ops.toList []) k = 1 ∧ a = (S k).next ∧ b = (S (k + 1)).next := by
  induction i with
  | zero => rw [tr.g0]; simp
  | succ i ih =>
    obtain ⟨o, ho⟩ := op_at (ops := ops) (show i < ops.size by omega)
    rw [tr.gg i o ho]
    by_cases h1 : kindOf ops (predTab ops.toList []) i = 1
    · rw [beq_of h1, cond_true, List.mem_cons, ih (by omega)]
      constructor
      · rintro (h | h)
        · simp only [Prod.mk.injEq] at h
          obtain ⟨rfl, rfl, rfl⟩ := h
          exact ⟨by omega, h1, rfl, rfl⟩
        · exact ⟨by omega, h.2⟩
      · rintro ⟨h2, h3, h4, h5⟩
        by_cases h : k = i
        · subst h; left; rw [h4, h5]
        · exact .inr ⟨by omega, h3, h4, h5⟩
    · rw [beq_ne h1, cond_false, ih (by omega)]
      constructor
      · rintro ⟨h2, h3⟩; exact ⟨by omega, h3⟩
      · rintro ⟨h2, h3⟩
        by_cases h : k = i
        · subst h; exact absurd h3.1 h1
        · exact ⟨by omega, h3⟩

/-- A name that is new in the region was laid by one of its operations. -/
theorem tr_by {i n : Nat} (hi : i ≤ ops.size) (h0 : (S 0).next ≤ n) (hn : n < (S i).next) : ∃ k, k < i ∧ (S k).next ≤ n ∧ n < (S (k + 1)).next := by
  induction i with
  | zero => omega
  | succ i ih =>
    by_cases h : n < (S i).next
    · obtain ⟨k, h1, h2⟩ := ih (by omega) h
      exact ⟨k, by omega, h2⟩
    · exact ⟨i, by omega, by omega, hn⟩
end


/-! ### The invariant over whatever order -/
/-- The relation, names below a bound alone. -/
def Ren.upto (r : Ren) (m : Nat) : Ren := { rel := fun n b => r.rel n b ∧ n < m, bs := r.bs, ro := r.ro }
theorem Ren.upto_le (r : Ren) {m m' : Nat} (h : m ≤ m') : (r.upto m).le (r.upto m') := ⟨fun _ _ hn => ⟨hn.1, Nat.lt_of_lt_of_le hn.2 h⟩, fun _ _ _ => rfl, rfl⟩
theorem Ren.upto_le_self (r : Ren) (m : Nat) : (r.upto m).le r := ⟨fun _ _ hn => hn.1, fun _ _ _ => rfl, rfl⟩
theorem Ren.upto_mono {r r' : Ren} (h : r.le r') (m : Nat) : (r.upto m).le (r'.upto m) := ⟨fun n b hn => ⟨h.rel n b hn.1, hn.2⟩, fun n b hn => h.bs n b hn.1, h.ro⟩

def In (ops : Array Oper) (listed : Array Bool) (i : Nat) : Prop := i < ops.size ∧ listed.getD i false = true

/-- Names that are there when just the listed operations have been done. -/
def Live (S : Nat → AHeap) (ops : Array Oper) (listed : Array Bool) (n : Nat) : Prop := n < (S 0).next ∨ ∃ k, In ops listed k ∧ (S k).next ≤ n ∧ n < (S (k + 1)).next

structure Inv (ops : Array Oper) (T : Nat → List Value) (S : Nat → AHeap) (V : Nat → Value) (r0 : Ren) (w0 : World) (a0 : Act) (listed : Array Bool) (m : Nat) (r : Ren) (w : World) (a : Act) : Prop where
  sz : listed.size = ops.size
  closed : ∀ i o, ops[i]? = some o → In ops listed i → ∀ e ∈ o.after.toList, Region.binds .any e = true → In ops listed e.on
  mle : m ≤ ops.size
  m1 : ∀ i, m ≤ i → Mem ops i → ¬ In ops listed i
  m2 : m = 0 ∨ (Mem ops (m - 1) ∧ In ops listed (m - 1))
  lt : ∀ n b, r.rel n b → Live S ops listed n ∧ b < w.heap.size
  fn : ∀ n b b', r.rel n b → r.rel n b' → b = b'
  inj : ∀ n k b, (S m).get n ≠ none → (S m).get k ≠ none → r.rel n b → r.rel k b → n = k ∨ r.ro b
  obj : ∀ j n o, j ≤ ops.size → (∀ k, In ops listed k → kindOf ops (predTab ops.toList []) k = 2 → k < j) → Live S ops listed n → n < (S j).next → (S m).get n = some o → ∃ b o', r.rel n b ∧ w.heap[b]? = some o' ∧ ORel (r.upto (S j).next) b o o'
  len : a.tmps.size = (T 0).length
  told : ∀ t, (∀ k o, In ops listed k → ops[k]? = some o → o.dst ≠ some t) → VRel (r.upto (S 0).next) (atT (T 0) t) (a.tmps.getD t undef)
  tnew : ∀ t k o, In ops listed k → ops[k]? = some o → o.dst = some t → VRel (r.upto (S (k + 1)).next) (V k) (a.tmps.getD t undef)
  defers : a.defers = a0.defers
  le : r0.le r
  fresh : ∀ n b, r.rel n b → r0.rel n b ∨ ((S 0).next ≤ n ∧ (w0.heap.size ≤ b ∨ ∃ k, r0.rel k b ∧ (S 0).get k ≠ none ∧ (S 0).lim ≤ k))
  size : w0.heap.size ≤ w.heap.size
  frame : ∀ b, b < w0.heap.size → (∀ n, r0.rel n b → (S 0).get n = none ∨ n < (S 0).lim) → w.heap[b]? = w0.heap[b]?
  os : w.os = w0.os
  tape : w.tape = w0.tape
  output : w.output = w0.output

theorem Inv.wr {ops : Array Oper} {T : Nat → List Value} {S : Nat → AHeap} {V : Nat → Value} {r0 r : Ren} {w0 w : World} {a0 a : Act} {listed : Array Bool} {m : Nat} (h0 : WRel r0 (S 0) w0) (hI : Inv ops T S V r0 w0 a0 listed m r w a)
    (n b : Nat) (hn : r.rel n b) (hl : (S 0).lim ≤ n) : ¬ r.ro b := by
  rw [hI.le.ro]
  rcases hI.fresh n b hn with h | ⟨_, h | ⟨k, hk, _, h⟩⟩
  · exact h0.wr n b h hl
  · intro hro; have := h0.rob b hro; omega
  · exact h0.wr k b hk h
theorem Inv.rob {ops : Array Oper} {T : Nat → List Value} {S : Nat → AHeap} {V : Nat → Value} {r0 r : Ren} {w0 w : World} {a0 a : Act} {listed : Array Bool} {m : Nat} (h0 : WRel r0 (S 0) w0) (hI : Inv ops T S V r0 w0 a0 listed m r w a)
    (b : Nat) (hb : r.ro b) : b < w.heap.size := by
  rw [hI.le.ro] at hb
  exact Nat.lt_of_lt_of_le (h0.rob b hb) hI.size

theorem In.set {ops : Array Oper} {listed : Array Bool} {i k : Nat} (hi : i < ops.size) (hsz : listed.size = ops.size) : In ops (listed.setIfInBounds i true) k ↔ k = i ∨ In ops listed k := by
  unfold In
  simp only [Array.getD_eq_getD_getElem?]
  by_cases h : i = k
  · subst h
    simp [Array.getElem?_setIfInBounds, hsz, hi]
  · rw [Array.getElem?_setIfInBounds_ne h]
    constructor
    · intro h1; exact .inr h1
    · rintro (h1 | h1)
      · exact absurd h1.symm h
      · exact h1

end Go.Abs
