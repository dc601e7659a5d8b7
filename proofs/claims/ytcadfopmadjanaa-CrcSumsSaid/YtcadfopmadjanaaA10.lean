/- A10: what an operation of the abstract machine leaves alone in the abstract heap. General over the program. -/
import Derived.Test.YtcadfopmadjanaaA9
namespace Go.Abs
set_option linter.unusedVariables false
set_option linter.unusedSimpArgs false

structure AStep (σ σ' : AHeap) : Prop where
  next : σ.next ≤ σ'.next
  lim : σ'.lim = σ.lim
  hid : σ'.hid = σ.hid
  gl : σ'.glob = σ.glob
  keep : ∀ n, n < σ.lim → n < σ.next → σ'.get n = σ.get n
  raw : ∀ n, n < σ.next → hidden σ.hid n = true → σ'.t.get n = σ.t.get n
  dead : ∀ n, n < σ.next → σ.get n = none → σ'.get n = none
  sm : σ.next ≤ MAXN + 1 → σ'.next ≤ MAXN + 1
  top : (∀ n, σ.next ≤ n → σ.t.get n = none) → ∀ n, σ'.next ≤ n → σ'.t.get n = none
  obl : σ'.obl.all id = true → σ.obl.all id = true

theorem AStep.refl (σ : AHeap) : AStep σ σ := ⟨Nat.le_refl _, rfl, rfl, rfl, fun _ _ _ => rfl, fun _ _ _ => rfl, fun _ _ h => h, fun h => h, fun h => h, fun h => h⟩
theorem AStep.trans {a b c : AHeap} (h : AStep a b) (k : AStep b c) : AStep a c where
  next := Nat.le_trans h.next k.next
  lim := k.lim.trans h.lim
  hid := k.hid.trans h.hid
  gl := k.gl.trans h.gl
  keep := fun n hl hn => (k.keep n (by rw [h.lim]; exact hl) (Nat.lt_of_lt_of_le hn h.next)).trans (h.keep n hl hn)
  raw := fun n hn hh => (k.raw n (Nat.lt_of_lt_of_le hn h.next) (by rw [h.hid]; exact hh)).trans (h.raw n hn hh)
  dead := fun n hn hd => k.dead n (Nat.lt_of_lt_of_le hn h.next) (h.dead n hn hd)
  sm := fun hs => k.sm (h.sm hs)
  top := fun hs => k.top (h.top hs)
  obl := fun hs => h.obl (k.obl hs)

theorem AHeap.alloc_obl {σ σ' : AHeap} {o : AObj} {n : Nat} (ha : σ.alloc o = some (n, σ')) : σ'.obl = σ.obl := by
  unfold AHeap.alloc at ha
  by_cases hb : (Nat.ble σ.next MAXN && !hidden σ.hid σ.next) = true
  · rw [hb, cond_true] at ha
    simp only [Option.some.injEq, Prod.mk.injEq] at ha
    obtain ⟨_, rfl⟩ := ha
    rfl
  · simp only [Bool.not_eq_true] at hb; rw [hb, cond_false] at ha; simp at ha

theorem AStep.alloc {σ σ' : AHeap} {o : AObj} {n : Nat} (ha : σ.alloc o = some (n, σ')) : AStep σ σ' ∧ n = σ.next := by
  have ha0 := ha
  obtain ⟨h0, h1, h2, h3, h4, h5, h6, h7, h8⟩ := AHeap.alloc_spec ha
  refine ⟨⟨by omega, h3, h4, h5, fun m _ hm => h7 m (by omega), fun m hm hh => ?_, fun m hm hd => by rw [h7 m (by omega)]; exact hd, fun _ => h2, fun ht m hm => by rw [h8 m (by omega)]; exact ht m (by omega), fun h => by rw [AHeap.alloc_obl ha0] at h; exact h⟩, h0⟩
  unfold AHeap.alloc at ha0
  by_cases hb : (Nat.ble σ.next MAXN && !hidden σ.hid σ.next) = true
  · rw [hb, cond_true] at ha0
    simp only [Option.some.injEq, Prod.mk.injEq] at ha0
    obtain ⟨_, rfl⟩ := ha0
    exact Tree.get_set_other 64 _ _ _ _ (by omega)
  · simp only [Bool.not_eq_true] at hb; rw [hb, cond_false] at ha0; simp at ha0

theorem AStep.put {σ : AHeap} {n : Nat} {o : Option AObj} {ob : AObj} (hg : σ.get n = some ob) (hm : σ.may n = true) : AStep σ (σ.put n o) := by
  have hmay : σ.lim ≤ n := by simpa [AHeap.may] using hm
  refine ⟨Nat.le_refl _, rfl, rfl, rfl, fun m hl _ => AHeap.get_put_other σ n m _ (by omega), fun m hm hh => ?_, fun m hm hd => ?_, fun h => h, fun ht m hm => ?_, fun h => h⟩
  case refine_3 =>
    have hne : m ≠ n := by
      rintro rfl
      have h1 := ht m hm
      unfold AHeap.get at hg
      rw [h1] at hg
      cases hidden σ.hid m <;> simp at hg
    show (σ.t.set 64 n o).get m = none
    rw [Tree.get_set_other 64 _ _ _ _ hne]; exact ht m hm
  case refine_2 =>
    by_cases hmn : m = n
    · subst hmn; rw [hg] at hd; simp at hd
    · rw [AHeap.get_put_other σ n m _ hmn]; exact hd
  have := AHeap.hid_of_get σ n hg
  exact Tree.get_set_other 64 _ _ _ _ (by rintro rfl; rw [this] at hh; simp at hh)

theorem storeAt_astep {P : Program} {t : TypeId} {a : Addr} {v : Value} {σ σ' : AHeap} (h : storeAt P t a v σ = some σ') : AStep σ σ' := by
  unfold storeAt at h
  split at h
  · rename_i c e hg
    split at h
    · rename_i n hz
      simp only at h
      by_cases hb : (Nat.beq v.cells.toList.length n && σ.may a.block) = true
      · rw [hb, cond_true] at h
        simp only [Bool.and_eq_true] at hb
        obtain ⟨m, _, rfl⟩ := Option.map_eq_some_iff.1 h
        exact AStep.put hg hb.2
      · simp only [Bool.not_eq_true] at hb; rw [hb, cond_false] at h; simp at h
    · simp at h
  · simp at h

theorem absApp_astep {σ σ' : AHeap} {elem sz n sLen sCap : Nat} {new : List Value} {base : Option Addr} {old : Option (List Value × Nat)} {v : Value} (h : absApp σ elem sz n new base sLen sCap old = some (v, σ')) : AStep σ σ' := by
  unfold absApp at h
  by_cases hU : Nat.ble UNK sCap = true
  · rw [hU, cond_true] at h
    split at h
    · rename_i a
      split at h
      · rename_i c e hg
        by_cases hb : (Nat.beq sCap (UNK + sz) && Nat.beq a.off 0 && Nat.beq c.length (sLen * sz) && σ.may a.block && Nat.beq e elem) = true
        · rw [hb, cond_true] at h
          simp only [Bool.and_eq_true] at hb
          split at h
          · rename_i m σ1 hal
            simp only [Option.some.injEq, Prod.mk.injEq] at h
            obtain ⟨_, rfl⟩ := h
            exact (AStep.put hg hb.1.2).trans (AStep.alloc hal).1
          · simp at h
        · simp only [Bool.not_eq_true] at hb; rw [hb, cond_false] at h; simp at h
      · simp at h
    · simp at h
  · simp only [Bool.not_eq_true] at hU
    rw [hU, cond_false] at h
    by_cases hin : Nat.ble (sLen + n) sCap = true
    · rw [hin, cond_true] at h
      split at h
      · simp only [Option.some.injEq, Prod.mk.injEq] at h
        obtain ⟨_, rfl⟩ := h
        exact .refl _
      · rename_i a
        split at h
        · rename_i c e hg
          by_cases hm : σ.may a.block = true
          · rw [hm, cond_true] at h
            obtain ⟨m, hset, heq⟩ := Option.map_eq_some_iff.1 h
            simp only [Prod.mk.injEq] at heq
            obtain ⟨_, rfl⟩ := heq
            exact AStep.put hg hm
          · simp only [Bool.not_eq_true] at hm; rw [hm, cond_false] at h; simp at h
        · simp at h
    · simp only [Bool.not_eq_true] at hin
      rw [hin, cond_false] at h
      split at h
      · split at h
        · rename_i m σ1 hal
          simp only [Option.some.injEq, Prod.mk.injEq] at h
          obtain ⟨_, rfl⟩ := h
          exact (AStep.alloc hal).1
        · simp at h
      · simp at h

def CallA (call : Caller) : Prop := ∀ f args σ v σ', call f args σ = some (v, σ') → AStep σ σ'

theorem op_astep {P : Program} {call : Caller} {σ σ' : AHeap} {ρ : Operand → Value} {o : Oper} {v : Value} (hc : CallA call) (ha : absOp P call ρ o σ = some (v, σ')) : AStep σ σ' := by
  have same : ∀ {u : Option Value} {v : Value} {σ' : AHeap}, (u.map fun v => (v, σ)) = some (v, σ') → AStep σ σ' := by
    intro u v σ' h
    obtain ⟨u', hu, e⟩ := Option.map_eq_some_iff.1 h
    simp only [Prod.mk.injEq] at e
    obtain ⟨_, rfl⟩ := e
    exact .refl _
  have eqn : ∀ {x v : Value} {σ' : AHeap}, some (x, σ) = some (v, σ') → AStep σ σ' := by
    intro x v σ' h
    simp only [Option.some.injEq, Prod.mk.injEq] at h
    obtain ⟨_, rfl⟩ := h
    exact .refl _
  have bifs : ∀ {b : Bool} {x : Option (Value × AHeap)} {v : Value} {σ' : AHeap}, (bif b then x else none) = some (v, σ') → x = some (v, σ') := by
    intro b x v σ' h
    cases b
    · simp at h
    · exact h
  have hal : ∀ {o : AObj} {v : Value} {σ' : AHeap} {f : Nat → Value}, (match σ.alloc o with | some (n, σ') => some (f n, σ') | none => none) = some (v, σ') → AStep σ σ' := by
    intro o v σ' f h
    split at h
    · rename_i n σ1 h1
      simp only [Option.some.injEq, Prod.mk.injEq] at h
      obtain ⟨_, rfl⟩ := h
      exact (AStep.alloc h1).1
    · simp at h
  unfold absOp at ha
  split at ha
  · exact eqn ha
  · exact eqn ha
  · exact same ha
  · split at ha
    · exact same ha
    · simp at ha
  · split at ha
    · obtain ⟨σ1, h1, e⟩ := Option.map_eq_some_iff.1 ha
      simp only [Prod.mk.injEq] at e
      obtain ⟨_, rfl⟩ := e
      exact storeAt_astep h1
    · simp at ha
  · unfold absCallOp at ha
    split at ha
    · split at ha
      · exact hc _ _ _ _ _ (bifs ha)
      · simp at ha
    · unfold absBuiltin at ha
      split at ha
      · exact same ha
      · exact same ha
      · unfold absAppend at ha
        split at ha
        · split at ha
          · exact absApp_astep (bifs ha)
          · simp at ha
        · simp at ha
      · unfold absCopy at ha
        split at ha
        · rename_i elem base dLen cap hu hx0
          split at ha
          · simp only at ha
            split at ha
            · exact eqn (bifs ha)
            · rename_i a
              cases hd : Nat.beq dLen 0 with
              | true => rw [hd, cond_true] at ha; exact eqn ha
              | false =>
                rw [hd, cond_false] at ha
                split at ha
                · rename_i c e hg
                  cases hm : σ.may a.block with
                  | true =>
                    rw [hm, cond_true] at ha
                    obtain ⟨m, hset, heq⟩ := Option.map_eq_some_iff.1 ha
                    simp only [Prod.mk.injEq] at heq
                    obtain ⟨_, rfl⟩ := heq
                    exact AStep.put hg hm
                  | false => rw [hm, cond_false] at ha; simp at ha
                · simp at ha
          · simp at ha
        · simp at ha
      · exact same (bifs ha)
      · exact same (bifs ha)
      · simp at ha
    · unfold absInvoke at ha
      split at ha
      · split at ha
        · split at ha
          · exact hc _ _ _ _ _ (bifs ha)
          · simp at ha
        · simp at ha
      · simp at ha
  · exact same ha
  · exact same ha
  · exact eqn (bifs ha)
  · unfold absConvert at ha
    split at ha
    · exact same ha
    · exact same ha
    · split at ha
      · rename_i q hq
        obtain rfl := Option.some.inj ha
        unfold absToBytes at hq
        split at hq
        · split at hq
          · exact hal hq
          · simp at hq
        · simp at hq
      · exact same ha
    · simp at ha
  · split at ha
    · exact eqn ha
    · simp at ha
  · exact same ha
  · exact same ha
  · exact same (bifs ha)
  · unfold absBuildSlice at ha
    split at ha
    · split at ha
      · have ha := bifs ha
        split at ha
        · exact hal ha
        · simp at ha
      · simp at ha
    · simp at ha
  · exact same ha
  · unfold absAlloc at ha
    split at ha
    · exact hal ha
    · simp at ha
  · unfold absBox at ha
    exact hal (bifs ha)
  · exact same ha
  · exact same ha
  · unfold absMakeSlice at ha
    split at ha
    · split at ha
      · exact hal (bifs ha)
      · simp at ha
    · simp at ha
  · split at ha
    · simp at ha
    · simp at ha
    · exact eqn ha
  · exact eqn (bifs ha)
  · simp at ha

end Go.Abs
