/- A14: one operation of a drawn region, in whatever order. General over the program. -/
import Derived.Test.YtcadfopmadjanaaA13
namespace Go.Abs
set_option linter.unusedVariables false
set_option linter.unusedSimpArgs false
set_option linter.unusedSectionVars false

section
variable {P : Program} {call : Caller} {ops : Array Oper} {T : Nat → List Value} {S : Nat → AHeap} {V : Nat → Value} {G : Nat → List (Nat × Nat × Nat)}
  (hN : NoNum P) (hC : CallOK P call) (hc : CallA call) (hok : okDraw ops (predTab ops.toList []) = true) (tr : Trace P call ops (kindOf ops (predTab ops.toList [])) (fun i => (predTab ops.toList []).getD i 0) T S V G)
  {r0 r : Ren} {w0 w : World} {a0 a : Act} {listed : Array Bool} {m : Nat} (h0 : WRel r0 (S 0) w0) (hI : Inv ops T S V r0 w0 a0 listed m r w a)

abbrev KD (ops : Array Oper) (i : Nat) : Nat := kindOf ops (predTab ops.toList []) i

include hI in
/-- What is ahead of what is done, is done. -/
theorem in_closed : ∀ j, In ops listed j → ∀ k, PB ops j k → In ops listed k := by
  intro j
  induction j using Nat.strongRecOn with
  | _ j ih =>
    intro hj k hk
    obtain ⟨o, ho⟩ := op_at hj.1
    obtain ⟨e, he, hb, h1⟩ := hk.edge ho
    have h2 := hI.closed j o ho hj e he hb
    rcases h1 with rfl | ⟨h3, h4⟩
    · exact h2
    · exact ih e.on h3 h2 k h4

theorem mem_of_kind {i : Nat} (hi : i < ops.size) (h : KD ops i ≠ 0) : Mem ops i := by
  obtain ⟨o, ho⟩ := op_at hi
  by_cases hm : Mem ops i
  · exact hm
  · exact absurd ((kind_zero ho).2 hm) h
theorem kind_of_mem {i : Nat} (h : Mem ops i) : KD ops i ≠ 0 := by
  obtain ⟨o, ho, _⟩ := id h
  exact fun h1 => (kind_zero ho).1 h1 h

include hI in
theorem in_lt {k : Nat} (hk : In ops listed k) (hm : Mem ops k) : k < m := by
  by_cases h : k < m
  · exact h
  · exact absurd hk (hI.m1 k (by omega) hm)

include hc tr in
/-- An operation without memory lays no block. -/
theorem range_mem {k n : Nat} (hk : k < ops.size) (h1 : (S k).next ≤ n) (h2 : n < (S (k + 1)).next) : Mem ops k := by
  obtain ⟨o, ho⟩ := op_at hk
  by_cases hm : Mem ops k
  · exact hm
  · have := (draw1_astep hc (tr.one k o ho)).2.2 ((kind_zero ho).2 hm)
    omega

include hc tr hI in
theorem live_next {n : Nat} (h : Live S ops listed n) : n < (S m).next := by
  rcases h with h | ⟨k, hk, h1, h2⟩
  · have := (tr_astep hc tr (Nat.zero_le m) hI.mle).next; omega
  · have h3 := in_lt hI hk (range_mem hc tr hk.1 h1 h2)
    have := (tr_astep hc tr (show k + 1 ≤ m by omega) hI.mle).next; omega

section one
variable {i : Nat} {o : Oper} (ho : ops[i]? = some o) (hni : ¬ In ops listed i) (hready : ∀ e ∈ o.after.toList, Region.binds .any e = true → In ops listed e.on)

include hI ho hready in
theorem pre_in {k : Nat} (hk : PB ops i k) : In ops listed k := by
  obtain ⟨e, he, hb, h1⟩ := hk.edge ho
  have h2 := hready e he hb
  rcases h1 with rfl | ⟨_, h4⟩
  · exact h2
  · exact in_closed hI e.on h2 k h4
include hI hni in
theorem suc_out {k : Nat} (hk : PB ops k i) : ¬ In ops listed k := fun h => hni (in_closed hI k h i hk)

include hI hok ho hni hready in
/-- No operation of kind 2 between. -/
theorem no2_before (hm : Mem ops i) {j : Nat} (h1 : m ≤ j) (h2 : j < i) : KD ops j ≠ 2 := by
  intro h
  have hj : j < ops.size := by have := lt_of_op ho; omega
  have hmj : Mem ops j := mem_of_kind hj (by omega)
  rcases kind_two h hm (by omega) with h3 | h3
  · have := ok_lt hok hj h3; omega
  · exact hI.m1 j h1 hmj (pre_in hI ho hready h3)
include hI hok ho hni hready in
theorem no2_behind (hm : Mem ops i) {j : Nat} (h1 : i < j) (h2 : j < m) : KD ops j ≠ 2 := by
  intro h
  have hj : j < ops.size := by have := hI.mle; omega
  have hi := lt_of_op ho
  rcases kind_two h hm (by omega) with h3 | h3
  · rcases hI.m2 with h4 | ⟨h4, h5⟩
    · omega
    · have hij : In ops listed j := by
        by_cases hjm : j = m - 1
        · rw [hjm]; exact h5
        · rcases kind_two h h4 hjm with h6 | h6
          · have := ok_lt hok hj h6; omega
          · exact in_closed hI (m - 1) h5 j h6
      exact hni (in_closed hI j hij i h3)
  · have := ok_lt hok hi h3; omega
include hI hok ho hni hready in
theorem not2_inside (hm : Mem ops i) (h1 : i < m) : KD ops i ≠ 2 := by
  intro h
  have hi := lt_of_op ho
  rcases hI.m2 with h4 | ⟨h4, h5⟩
  · omega
  · by_cases hjm : i = m - 1
    · rw [← hjm] at h5; exact hni h5
    · rcases kind_two h h4 hjm with h6 | h6
      · have := ok_lt hok hi h6; omega
      · exact hni (in_closed hI (m - 1) h5 i h6)

include hI hok ho hni hready in
theorem in_lt_of2 (h2 : KD ops i = 2) {k : Nat} (hk : In ops listed k) (hm : Mem ops k) : k < i := by
  have hne : i ≠ k := by rintro rfl; exact hni hk
  rcases kind_two h2 hm hne with h | h
  · exact ok_lt hok (lt_of_op ho) h
  · exact absurd hk (suc_out hI hni h)
include hI hok ho hni hready in
theorem in_of2 (h2 : KD ops i = 2) {k : Nat} (hk : k < i) (hm : Mem ops k) : In ops listed k := by
  rcases kind_two h2 hm (by omega) with h | h
  · exact pre_in hI ho hready h
  · have hks : k < ops.size := by have := lt_of_op ho; omega
    have := ok_lt hok hks h; omega

include hI hok ho hni hready tr hc in
/-- The operands. -/
theorem look_rel {t : Nat} (ht : (o.looksAt ops).contains t = true) : VRel (r.upto (S i).next) (atT (T i) t) (a.tmps.getD t undef) := by
  have hi := lt_of_op ho
  by_cases hex : ∃ k ok, In ops listed k ∧ ops[k]? = some ok ∧ ok.dst = some t
  · obtain ⟨k, ok, hk, hko, hd⟩ := hex
    have hne : i ≠ k := by rintro rfl; exact hni hk
    rcases (ok_pair hok ho hko hne).2 with h | h | h
    · have hki := ok_lt hok hi h
      rw [tr_new hok tr (by omega) hki hko hd]
      refine (hI.tnew t k ok hk hko hd).mono (r.upto_le ?_)
      exact (tr_astep hc tr (show k + 1 ≤ i by omega) (by omega)).next
    · exact absurd hk (suc_out hI hni h)
    · rw [h t hd] at ht; simp at ht
  · have hno : ∀ k ok, In ops listed k → ops[k]? = some ok → ok.dst ≠ some t := fun k ok h1 h2 h3 => hex ⟨k, ok, h1, h2, h3⟩
    rw [tr_old tr (by omega) (t := t) ?_]
    · refine (hI.told t hno).mono (r.upto_le ?_)
      exact (tr_astep hc tr (Nat.zero_le i) (by omega)).next
    · intro k ok hki hko hd
      rcases (ok_pair hok ho hko (show i ≠ k by omega)).2 with h | h | h
      · exact hno k ok (pre_in hI ho hready h) hko hd
      · have := ok_lt hok (lt_of_op hko) h; omega
      · rw [h t hd] at ht; simp at ht

include hI hok ho hni hready tr hc h0 in
theorem look_ev (x : Operand) : VRel (r.upto (S i).next) (look ops o (S i).glob (T i) x) (a.eval x) := by
  have hi := lt_of_op ho
  cases x with
  | tmp t =>
    simp only [look]
    by_cases ht : (o.looksAt ops).contains t = true
    · rw [ht, cond_true]; exact look_rel hc hok tr hI ho hni hready ht
    · simp only [Bool.not_eq_true] at ht; rw [ht, cond_false]; exact .poison _
  | const v =>
    simp only [look, ev, Act.eval]
    by_cases h1 : isAtom v = true
    · simp [h1, VRel.atom v h1]
    · by_cases h2 : noPtr 8 v = true
      · simp [h2, VRel.refl_of_noPtr _ 8 v h2]
      · simp only [Bool.not_eq_true] at h1 h2
        simp [h1, h2, VRel.poison]
  | global g =>
    simp only [look, ev, Act.eval]
    have hA := tr_astep hc tr (Nat.zero_le i) (show i ≤ ops.size by omega)
    by_cases hg : Nat.blt g (S i).glob = true
    · simp only [hg, cond_true]
      have hg' : g < (S 0).glob := by rw [← hA.gl]; simpa [Nat.blt_eq] using hg
      have h1 := h0.glob g hg'
      exact .ptr g g 0 none ⟨hI.le.rel g g h1, Nat.lt_of_lt_of_le (h0.lt g g h1).1 hA.next⟩
    · simp only [Bool.not_eq_true] at hg
      simp only [hg, cond_false]
      exact .poison _
  | func f =>
    simp only [look, ev, Act.eval]
    exact .func f #[] #[] rfl (fun i ha => by simp at ha)

include hI hok ho hni hready tr hc in
theorem look_wanted {b : Bool} (h : wantedL ops (T i) o = some b) : Region.wanted o (yielded ops a.tmps) = b := by
  refine wanted_rel (r := r.upto (S i).next) (by rw [hI.len, tr_len tr (by have := lt_of_op ho; omega)]) ?_ h
  intro j want d hg hd
  refine look_rel hc hok tr hI ho hni hready ?_
  simp [Oper.looksAt, hg, hd]

include hI hok ho hni hready tr hc in
/-- What is to be seen in the careful heap is there, and is what it is now. -/
theorem seen_now (h2 : KD ops i ≠ 2) (htop : ∀ n, (S 0).next ≤ n → (S 0).t.get n = none) {n : Nat} {ob : AObj} (h : (restrictH (KD ops i) ((predTab ops.toList []).getD i 0) (G i) (S i)).get n = some ob) :
    KD ops i = 1 ∧ n < (S i).next ∧ Live S ops listed n ∧ (S m).get n = some ob := by
  have hi := lt_of_op ho
  have hA := tr_astep hc tr (Nat.zero_le i) (show i ≤ ops.size by omega)
  have hti := hA.top htop
  unfold restrictH at h
  by_cases hk0 : KD ops i = 0
  · rw [beq_of hk0, cond_true] at h
    exfalso
    by_cases hn : n < (S i).next
    · have : hidden [(0, (S i).next)] n = true := by simp [hidden, Nat.ble_eq, Nat.blt_eq, hn]
      simp only [AHeap.get, this, cond_true] at h; simp at h
    · simp only [AHeap.get, hti n (by omega)] at h
      cases hidden [(0, (S i).next)] n <;> simp at h
  · have hk1 : KD ops i = 1 := ((kind_cases ops i).resolve_right h2).resolve_left hk0
    have hmem : Mem ops i := mem_of_kind hi hk0
    rw [beq_ne hk0, cond_false, beq_of hk1, cond_true] at h
    generalize hH : ((G i).filter fun x => !((predTab ops.toList []).getD i 0).testBit x.1).map (fun x => x.2) ++ (S i).hid = HID at h
    simp only [AHeap.get] at h
    cases hh : hidden HID n with
    | true => rw [hh] at h; simp at h
    | false =>
      rw [hh, cond_false] at h
      have hn : n < (S i).next := by
        by_cases hn : n < (S i).next
        · exact hn
        · rw [hti n (by omega)] at h; simp at h
      have happ : ∀ (l l' : List (Nat × Nat)), hidden (l ++ l') n = (hidden l n || hidden l' n) := by
        intro l l'
        induction l with
        | nil => simp [hidden]
        | cons x l ih => obtain ⟨p, q⟩ := x; simp [hidden, ih, Bool.or_assoc]
      rw [← hH, happ] at hh
      simp only [Bool.or_eq_false_iff] at hh
      have hSi : (S i).get n = some ob := by simp only [AHeap.get, hh.2, cond_false]; exact h
      have hmemh : ∀ (l : List (Nat × Nat)) p q, (p, q) ∈ l → p ≤ n → n < q → hidden l n = true := by
        intro l p q hpq h1 h2
        induction l with
        | nil => simp at hpq
        | cons x l ih =>
          rcases List.mem_cons.1 hpq with rfl | hpq2
          · simp [hidden, Nat.ble_eq, Nat.blt_eq, h1, h2]
          · have := ih hpq2
            obtain ⟨p', q'⟩ := x; simp [hidden, this]
      have hlive : Live S ops listed n := by
        by_cases hn0 : n < (S 0).next
        · exact .inl hn0
        · obtain ⟨k, hki, h3, h4⟩ := tr_by (show i ≤ ops.size by omega) (by omega) hn
          have hks : k < ops.size := by omega
          have hmk := range_mem hc tr hks h3 h4
          refine .inr ⟨k, ?_, h3, h4⟩
          by_cases hkk : KD ops k = 2
          · rcases kind_two hkk hmem (by omega) with h5 | h5
            · have := ok_lt hok hks h5; omega
            · exact pre_in hI ho hready h5
          · have hkk1 : KD ops k = 1 := ((kind_cases ops k).resolve_right hkk).resolve_left (kind_of_mem hmk)
            have hG := (tr_G tr (show i ≤ ops.size by omega) k (S k).next (S (k + 1)).next).2 ⟨hki, hkk1, rfl, rfl⟩
            by_cases hb : ((predTab ops.toList []).getD i 0).testBit k = true
            · exact pre_in hI ho hready hb
            · exfalso
              have : ((S k).next, (S (k + 1)).next) ∈ ((G i).filter fun x => !((predTab ops.toList []).getD i 0).testBit x.1).map (fun x => x.2) := by
                refine List.mem_map.2 ⟨(k, (S k).next, (S (k + 1)).next), List.mem_filter.2 ⟨hG, ?_⟩, rfl⟩
                simp only [Bool.not_eq_true] at hb
                show (!((predTab ops.toList []).getD i 0).testBit k) = true
                rw [hb]; rfl
              have := hmemh _ _ _ this h3 h4
              rw [this] at hh; simp at hh
      refine ⟨hk1, hn, hlive, ?_⟩
      by_cases him : i ≤ m
      · rw [tr_keep hc tr him hI.mle ?_ n hn]; · exact hSi
        intro k h5 h6
        by_cases hki : k = i
        · rw [hki]; exact h2
        · exact no2_behind hok hI ho hni hready hmem (by omega) h6
      · rw [← tr_keep hc tr (show m ≤ i by omega) (by omega) ?_ n (live_next hc tr hI hlive)]; · exact hSi
        intro k h5 h6
        exact no2_before hok hI ho hni hready hmem h5 h6
end one
end

end Go.Abs
