/- A15: a drawn region as a whole. General over the program. -/
import Derived.Test.YtcadfopmadjanaaA14
namespace Go.Abs
set_option linter.unusedVariables false
set_option linter.unusedSimpArgs false
set_option linter.unusedSectionVars false

section
variable {P : Program} {call : Caller} {ops : Array Oper} {T : Nat → List Value} {S : Nat → AHeap} {V : Nat → Value} {G : Nat → List (Nat × Nat × Nat)}
  (hN : NoNum P) (hC : CallOK P call) (hc : CallA call) (hok : okDraw ops (predTab ops.toList []) = true) (tr : Trace P call ops (kindOf ops (predTab ops.toList [])) (fun i => (predTab ops.toList []).getD i 0) T S V G)
  {r0 r : Ren} {w0 w : World} {a0 a : Act} {listed : Array Bool} {m : Nat} (h0 : WRel r0 (S 0) w0) (hI : Inv ops T S V r0 w0 a0 listed m r w a)
  {i : Nat} {o : Oper} (ho : ops[i]? = some o) (hni : ¬ In ops listed i) (hready : ∀ e ∈ o.after.toList, Region.binds .any e = true → In ops listed e.on)

theorem live_set {n : Nat} (hi : i < ops.size) (hsz : listed.size = ops.size) : Live S ops (listed.setIfInBounds i true) n ↔ Live S ops listed n ∨ ((S i).next ≤ n ∧ n < (S (i + 1)).next) := by
  unfold Live
  constructor
  · rintro (h | ⟨k, hk, h1, h2⟩)
    · exact .inl (.inl h)
    · rcases (In.set hi hsz).1 hk with rfl | hk
      · exact .inr ⟨h1, h2⟩
      · exact .inl (.inr ⟨k, hk, h1, h2⟩)
  · rintro ((h | ⟨k, hk, h1, h2⟩) | ⟨h1, h2⟩)
    · exact .inl h
    · exact .inr ⟨k, (In.set hi hsz).2 (.inr hk), h1, h2⟩
    · exact .inr ⟨i, (In.set hi hsz).2 (.inl rfl), h1, h2⟩

theorem getD_put (a : Act) (d : Option Tmp) (v : Value) (t : Nat) (ht : ∀ d', d = some d' → d' < a.tmps.size) : (a.put d v).tmps.getD t undef = if d = some t then v else a.tmps.getD t undef := by
  cases d with
  | none => simp [Act.put]
  | some d =>
    have hlt := ht d rfl
    simp only [Act.put, Array.getD_eq_getD_getElem?, Option.some.injEq]
    by_cases h : d = t
    · subst h; simp [Array.getElem?_setIfInBounds, hlt]
    · simp [Array.getElem?_setIfInBounds_ne h, h]

/-- The parts of the invariant that speak of the frame. -/
structure FrameInv (ops : Array Oper) (T : Nat → List Value) (S : Nat → AHeap) (V : Nat → Value) (a0 : Act) (listed : Array Bool) (r : Ren) (a : Act) : Prop where
  len : a.tmps.size = (T 0).length
  told : ∀ t, (∀ k o, In ops listed k → ops[k]? = some o → o.dst ≠ some t) → VRel (r.upto (S 0).next) (atT (T 0) t) (a.tmps.getD t undef)
  tnew : ∀ t k o, In ops listed k → ops[k]? = some o → o.dst = some t → VRel (r.upto (S (k + 1)).next) (V k) (a.tmps.getD t undef)
  defers : a.defers = a0.defers

include hI ho hni tr hok in
theorem frame_set {r' : Ren} (hle : r.le r') {v' : Value} (hv : VRel (r'.upto (S (i + 1)).next) (V i) v') : FrameInv ops T S V a0 (listed.setIfInBounds i true) r' (a.put o.dst v') := by
  have hi := lt_of_op ho
  have hlen : ∀ d', o.dst = some d' → d' < a.tmps.size := fun d' hd => by rw [hI.len, ← tr_len tr (show i ≤ ops.size by omega)]; exact tr.ds i o d' ho hd
  refine ⟨?_, ?_, ?_, (put_defers a o.dst v').trans hI.defers⟩
  · rw [← hI.len]; cases o.dst <;> simp [Act.put]
  · intro t ht
    rw [getD_put a o.dst v' t hlen, if_neg (ht i o ((In.set hi hI.sz).2 (.inl rfl)) ho)]
    exact (hI.told t fun k ok hk => ht k ok ((In.set hi hI.sz).2 (.inr hk))).mono (Ren.upto_mono hle _)
  · intro t k ok hk hko hd
    rw [getD_put a o.dst v' t hlen]
    rcases (In.set hi hI.sz).1 hk with rfl | hk2
    · rw [ho] at hko
      obtain rfl := Option.some.inj hko
      rw [if_pos hd]; exact hv
    · have hne : k ≠ i := by rintro rfl; exact hni hk2
      rw [if_neg (fun h => (ok_pair hok hko ho hne).1 t hd h)]
      exact (hI.tnew t k ok hk2 hko hd).mono (Ren.upto_mono hle _)

include hI ho hready in
theorem closed_set : ∀ j oj, ops[j]? = some oj → In ops (listed.setIfInBounds i true) j → ∀ e ∈ oj.after.toList, Region.binds .any e = true → In ops (listed.setIfInBounds i true) e.on := by
  have hi := lt_of_op ho
  intro j oj hj hin e he hb
  refine (In.set hi hI.sz).2 (.inr ?_)
  rcases (In.set hi hI.sz).1 hin with rfl | hin
  · rw [ho] at hj
    obtain rfl := Option.some.inj hj
    exact hready e he hb
  · exact hI.closed j oj hj hin e he hb

open Classical in
/-- The new bound. -/
noncomputable def newM (ops : Array Oper) (i m : Nat) : Nat := if Mem ops i then max m (i + 1) else m

include hI ho in
theorem newM_facts : newM ops i m ≤ ops.size ∧ m ≤ newM ops i m ∧ (∀ j, newM ops i m ≤ j → Mem ops j → ¬ In ops (listed.setIfInBounds i true) j) ∧
    (newM ops i m = 0 ∨ (Mem ops (newM ops i m - 1) ∧ In ops (listed.setIfInBounds i true) (newM ops i m - 1))) := by
  have hi := lt_of_op ho
  have hm := hI.mle
  unfold newM
  split
  · rename_i hmem
    refine ⟨by omega, by omega, ?_, ?_⟩
    · intro j hj hmj hin
      rcases (In.set hi hI.sz).1 hin with rfl | hin
      · omega
      · exact hI.m1 j (by omega) hmj hin
    · right
      by_cases h : m ≤ i + 1
      · rw [Nat.max_eq_right h]
        exact ⟨hmem, (In.set hi hI.sz).2 (.inl rfl)⟩
      · rw [Nat.max_eq_left (by omega)]
        rcases hI.m2 with h1 | ⟨h1, h2⟩
        · omega
        · exact ⟨h1, (In.set hi hI.sz).2 (.inr h2)⟩
  · rename_i hmem
    refine ⟨hm, Nat.le_refl _, ?_, ?_⟩
    · intro j hj hmj hin
      rcases (In.set hi hI.sz).1 hin with rfl | hin
      · exact hmem hmj
      · exact hI.m1 j hj hmj hin
    · rcases hI.m2 with h1 | ⟨h1, h2⟩
      · exact .inl h1
      · exact .inr ⟨h1, (In.set hi hI.sz).2 (.inr h2)⟩

include hI hok ho hni hready tr hc in
/-- An operation not of kind 2 leaves what is there. -/
theorem newM_keep (h2 : KD ops i ≠ 2 ∨ S (i + 1) = S i) {n : Nat} (hn : Live S ops listed n) : (S (newM ops i m)).get n = (S m).get n := by
  have hi := lt_of_op ho
  unfold newM
  split
  · rename_i hmem
    by_cases h : i < m
    · rw [Nat.max_eq_left (by omega)]
    · rw [Nat.max_eq_right (by omega)]
      have hnm := live_next hc tr hI hn
      have h3 := tr_keep hc tr (show m ≤ i by omega) (by omega) (fun k h5 h6 => no2_before hok hI ho hni hready hmem h5 h6) n hnm
      rw [← h3]
      rcases h2 with h2 | h2
      · have hA := tr_astep hc tr (show m ≤ i by omega) (show i ≤ ops.size by omega)
        exact tr_keep hc tr (show i ≤ i + 1 by omega) (by omega) (fun k h5 h6 => by rw [show k = i by omega]; exact h2) n (by have := hA.next; omega)
      · rw [h2]
  · rfl

end

end Go.Abs
