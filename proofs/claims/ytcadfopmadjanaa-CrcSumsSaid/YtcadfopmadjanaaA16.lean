/- A16: a drawn region as a whole: each operation keeps the invariant; the end. General over the program. -/
import Derived.Test.YtcadfopmadjanaaA15
namespace Go.Abs
set_option linter.unusedVariables false
set_option linter.unusedSimpArgs false
set_option linter.unusedSectionVars false

section
variable {P : Program} {call : Caller} {ops : Array Oper} {T : Nat → List Value} {S : Nat → AHeap} {V : Nat → Value} {G : Nat → List (Nat × Nat × Nat)}
  (hN : NoNum P) (hC : CallOK P call) (hc : CallA call) (hok : okDraw ops (predTab ops.toList []) = true) (tr : Trace P call ops (kindOf ops (predTab ops.toList [])) (fun i => (predTab ops.toList []).getD i 0) T S V G)
  {r0 r : Ren} {w0 w : World} {a0 a : Act} {listed : Array Bool} {m : Nat} (h0 : WRel r0 (S 0) w0) (hI : Inv ops T S V r0 w0 a0 listed m r w a)
  {i : Nat} {o : Oper} (ho : ops[i]? = some o) (hni : ¬ In ops listed i) (hready : ∀ e ∈ o.after.toList, Region.binds .any e = true → In ops listed e.on)

include hI hok ho hni hready tr hc in
/-- An operation that lays new blocks alone. -/
theorem inv_quiet (h2 : KD ops i ≠ 2 ∨ S (i + 1) = S i) {r' : Ren} {w' : World} {v' : Value} (hle : r.le r') (hw : ∀ b, b < w.heap.size → w'.heap[b]? = w.heap[b]?) (hsz : w.heap.size ≤ w'.heap.size)
    (hnew : ∀ n b, r'.rel n b → r.rel n b ∨ ((S i).next ≤ n ∧ n < (S (i + 1)).next ∧ w.heap.size ≤ b ∧ b < w'.heap.size))
    (hfn : ∀ n b b', (S i).next ≤ n → r'.rel n b → r'.rel n b' → b = b')
    (hinj : ∀ n k b, (S i).next ≤ n → (S i).next ≤ k → (S (i + 1)).get n ≠ none → (S (i + 1)).get k ≠ none → r'.rel n b → r'.rel k b → n = k ∨ r'.ro b)
    (hobj : ∀ n ob, (S i).next ≤ n → (S (i + 1)).get n = some ob → n < (S (i + 1)).next → ∃ b o', r'.rel n b ∧ w'.heap[b]? = some o' ∧ ORel (r'.upto (S (i + 1)).next) b ob o')
    (hv : VRel (r'.upto (S (i + 1)).next) (V i) v') (hos : w'.os = w.os) (htape : w'.tape = w.tape) (hout : w'.output = w.output) :
    Inv ops T S V r0 w0 a0 (listed.setIfInBounds i true) (newM ops i m) r' w' (a.put o.dst v') := by
  have hi := lt_of_op ho
  obtain ⟨n1, n2, n3, n4⟩ := newM_facts hI ho
  obtain ⟨f1, f2, f3, f4⟩ := frame_set hok tr hI ho hni hle hv
  have hnext : (S 0).next ≤ (S i).next := (tr_astep hc tr (Nat.zero_le i) (by omega)).next
  -- a name of the old ones lies below, or not in i's range
  have hold : ∀ n b, r.rel n b → ¬ ((S i).next ≤ n ∧ n < (S (i + 1)).next) := by
    rintro n b hn ⟨h3, h4⟩
    rcases (hI.lt n b hn).1 with h5 | ⟨k, hk, h5, h6⟩
    · omega
    · have hki : k ≠ i := by rintro rfl; exact hni hk
      rcases Nat.lt_or_gt_of_ne hki with h7 | h7
      · have := (tr_astep hc tr (show k + 1 ≤ i by omega) (by omega)).next; omega
      · have := (tr_astep hc tr (show i + 1 ≤ k by omega) (by have := hk.1; omega)).next; omega
  have hlive_old : ∀ n, Live S ops listed n → ¬ ((S i).next ≤ n ∧ n < (S (i + 1)).next) := by
    rintro n hn ⟨h3, h4⟩
    rcases hn with h5 | ⟨k, hk, h5, h6⟩
    · omega
    · have hki : k ≠ i := by rintro rfl; exact hni hk
      rcases Nat.lt_or_gt_of_ne hki with h7 | h7
      · have := (tr_astep hc tr (show k + 1 ≤ i by omega) (by omega)).next; omega
      · have := (tr_astep hc tr (show i + 1 ≤ k by omega) (by have := hk.1; omega)).next; omega
  -- what a new name holds now
  have hnow : ∀ n, (S i).next ≤ n → n < (S (i + 1)).next → (S (newM ops i m)).get n = (S (i + 1)).get n := by
    intro n h3 h4
    have hmem : Mem ops i := range_mem hc tr hi h3 h4
    unfold newM
    rw [if_pos hmem]
    by_cases h : i < m
    · rw [Nat.max_eq_left (by omega)]
      exact tr_keep hc tr (show i + 1 ≤ m by omega) hI.mle (fun k h5 h6 => no2_behind hok hI ho hni hready hmem (by omega) h6) n h4
    · rw [Nat.max_eq_right (by omega)]
  have hkeep := fun {n : Nat} (hn : Live S ops listed n) => newM_keep hc hok tr hI ho hni hready h2 hn
  refine ⟨by simpa using hI.sz, closed_set hI ho hready, n1, n3, n4, ?_, ?_, ?_, ?_, f1, f2, f3, f4, hI.le.trans hle, ?_, Nat.le_trans hI.size hsz, ?_, hos.trans hI.os, htape.trans hI.tape, hout.trans hI.output⟩
  · intro n b hn
    rcases hnew n b hn with h3 | ⟨h3, h4, h5, h6⟩
    · exact ⟨(live_set hi hI.sz).2 (.inl (hI.lt n b h3).1), Nat.lt_of_lt_of_le (hI.lt n b h3).2 hsz⟩
    · exact ⟨(live_set hi hI.sz).2 (.inr ⟨h3, h4⟩), h6⟩
  · intro n b b' h3 h4
    rcases hnew n b h3 with h5 | ⟨h5, h6, _⟩
    · rcases hnew n b' h4 with h7 | ⟨h7, h8, _⟩
      · exact hI.fn n b b' h5 h7
      · exact absurd ⟨h7, h8⟩ (hold n b h5)
    · exact hfn n b b' h5 h3 h4
  · intro n k b h3 h4 h5 h6
    rcases hnew n b h5 with h7 | ⟨h7, h8, h9, h10⟩
    · rcases hnew k b h6 with h11 | ⟨_, _, h13, _⟩
      · rw [hkeep (hI.lt n b h7).1] at h3
        rw [hkeep (hI.lt k b h11).1] at h4
        exact (hI.inj n k b h3 h4 h7 h11).imp id fun h => by rw [hle.ro]; exact h
      · have := (hI.lt n b h7).2; omega
    · rcases hnew k b h6 with h11 | ⟨h11, h12, h13, _⟩
      · have := (hI.lt k b h11).2; omega
      · rw [hnow n h7 h8] at h3
        rw [hnow k h11 h12] at h4
        exact hinj n k b h7 h11 h3 h4 h5 h6
  · intro j n ob hj hsolo hn hnj hg
    rcases (live_set hi hI.sz).1 hn with h3 | ⟨h3, h4⟩
    · rw [hkeep h3] at hg
      obtain ⟨b, o', h5, h6, h7⟩ := hI.obj j n ob hj (fun k hk h8 => hsolo k ((In.set hi hI.sz).2 (.inr hk)) h8) h3 hnj hg
      refine ⟨b, o', hle.rel n b h5, by rw [hw b (hI.lt n b h5).2]; exact h6, ?_⟩
      exact h7.mono (Ren.upto_mono hle _) (n := n) ⟨h5, hnj⟩
    · rw [hnow n h3 h4] at hg
      obtain ⟨b, o', h5, h6, h7⟩ := hobj n ob h3 hg h4
      refine ⟨b, o', h5, h6, ?_⟩
      have hji : i + 1 ≤ j := by
        by_cases h : i + 1 ≤ j
        · exact h
        · have := (tr_astep hc tr (show j ≤ i by omega) (by omega)).next; omega
      exact h7.mono (r'.upto_le (tr_astep hc tr hji hj).next) (n := n) ⟨h5, h4⟩
  · intro n b hn
    rcases hnew n b hn with h3 | ⟨h3, h4, h5, h6⟩
    · exact hI.fresh n b h3
    · have := hI.size
      exact .inr ⟨by omega, .inl (by omega)⟩
  · intro b hb hd
    have := hI.size
    rw [hw b (by omega)]
    exact hI.frame b hb hd

include hN hC hI hok ho hni hready tr hc h0 in
theorem inv_step {K : Act → World → Prop} {Q : Exit → Act → World → Prop} (hob : okObl (S ops.size)) (hk : ∀ m' r' w' a', Inv ops T S V r0 w0 a0 (listed.setIfInBounds i true) m' r' w' a' → K a' w') : wpOp P ops Q i K a w := by
  have hi := lt_of_op ho
  have h1 := tr.one i o ho
  have hA := tr_astep hc tr (Nat.zero_le i) (show i ≤ ops.size by omega)
  have hA1 := tr_astep hc tr (show i ≤ i + 1 by omega) (show i + 1 ≤ ops.size by omega)
  unfold wpOp
  rw [ho]
  simp only
  unfold absDraw1 at h1
  split at h1
  · rename_i hwant
    rw [look_wanted hc hok tr hI ho hni hready hwant, if_pos rfl]
    left
    split at h1
    · rename_i v1 σ1 hop
      cases hb : (!Nat.beq (kindOf ops (predTab ops.toList []) i) 0 || Nat.beq σ1.next (S i).next) with
      | false => rw [hb, cond_false] at h1; simp at h1
      | true =>
        rw [hb, cond_true] at h1
        simp only [Option.some.injEq, Prod.mk.injEq] at h1
        obtain ⟨hV, hS⟩ := h1
        have hopA := opS_astep hc hop
        have ho1 : okObl σ1 := by
          have := (tr_astep hc tr (show i + 1 ≤ ops.size by omega) (Nat.le_refl _)).obl hob
          rw [← hS] at this
          exact this
        by_cases h2 : KD ops i = 2
        · -- in order with all that touch memory
          have hR : restrictH (kindOf ops (predTab ops.toList []) i) ((predTab ops.toList []).getD i 0) (G i) (S i) = S i := by
            unfold restrictH
            rw [beq_ne (show kindOf ops (predTab ops.toList []) i ≠ 0 by rw [show kindOf ops (predTab ops.toList []) i = 2 from h2]; decide), cond_false, beq_ne (show kindOf ops (predTab ops.toList []) i ≠ 1 by rw [show kindOf ops (predTab ops.toList []) i = 2 from h2]; decide), cond_false]
          rw [hR] at hop hopA
          have hmem : Mem ops i := mem_of_kind hi (by rw [h2]; decide)
          have hmi : m ≤ i := by
            by_cases h : m ≤ i
            · exact h
            · exact absurd h2 (not2_inside hok hI ho hni hready hmem (by omega))
          have hlt : ∀ n, Live S ops listed n → n < (S i).next := by
            intro n hn
            have := live_next hc tr hI hn
            have := (tr_astep hc tr hmi (show i ≤ ops.size by omega)).next
            omega
          have hsame : ∀ n, n < (S m).next → (S i).get n = (S m).get n := fun n hn =>
            tr_keep hc tr hmi (by omega) (fun k h5 h6 => no2_before hok hI ho hni hready hmem h5 h6) n hn
          have htop := hA.top h0.top
          have hlive : ∀ n ob, (S i).get n = some ob → Live S ops listed n := by
            intro n ob hg
            have hn : n < (S i).next := by
              by_cases hn : n < (S i).next
              · exact hn
              · unfold AHeap.get at hg
                rw [htop n (by omega)] at hg
                cases hidden (S i).hid n <;> simp at hg
            by_cases hn0 : n < (S 0).next
            · exact .inl hn0
            · obtain ⟨k, hki, h3, h4⟩ := tr_by (show i ≤ ops.size by omega) (by omega) hn
              exact .inr ⟨k, in_of2 hok hI ho hni hready h2 hki (range_mem hc tr (by omega) h3 h4), h3, h4⟩
          have hlive' : ∀ n, (S i).get n ≠ none → Live S ops listed n := by
            intro n hn
            obtain ⟨ob, hob⟩ := Option.ne_none_iff_exists'.1 hn
            exact hlive n ob hob
          have hW : WRel r (S i) w := by
            refine ⟨hA.sm h0.small, fun n b hn => ⟨hlt n (hI.lt n b hn).1, (hI.lt n b hn).2⟩, hI.fn, ?_, ?_, ?_, htop, fun n b hn hl => hI.wr h0 n b hn (by rw [hA.lim] at hl; exact hl), hI.rob h0⟩
            · intro n k b h3 h4 h5 h6
              have e1 := hsame n (live_next hc tr hI (hlive' n h3))
              have e2 := hsame k (live_next hc tr hI (hlive' k h4))
              exact hI.inj n k b (e1 ▸ h3) (e2 ▸ h4) h5 h6
            · intro n ob hg
              have hl := hlive n ob hg
              rw [hsame n (live_next hc tr hI hl)] at hg
              obtain ⟨b, o', h5, h6, h7⟩ := hI.obj i n ob (by omega) (fun k hk h8 => in_lt_of2 hok hI ho hni hready h2 hk (mem_of_kind hk.1 (by rw [show KD ops k = 2 from h8]; decide))) hl (hlt n hl) hg
              exact ⟨b, o', h5, h6, h7.mono (r.upto_le_self _) (n := n) ⟨h5, hlt n hl⟩⟩
            · intro g hg
              exact hI.le.rel g g (h0.glob g (by rw [← hA.gl]; exact hg))
          refine opS_ok ⟨hN, hC, hW, fun x => (look_ev hc hok tr h0 hI ho hni hready x).mono (r.upto_le_self _)⟩ hop ho1 K Q ?_
          intro r1 w1 u1 hs hv
          have hS1 : S (i + 1) = σ1 := by rw [← hS, ← hopA.hid, ← hopA.lim]
          have hnx : ∀ n b, r1.rel n b → n < (S (i + 1)).next := fun n b hn => by rw [hS1]; exact (hs.rel.lt n b hn).1
          have hup : ∀ j, i + 1 ≤ j → j ≤ ops.size → r1.le (r1.upto (S j).next) := fun j h3 h4 =>
            ⟨fun n b hn => ⟨hn, Nat.lt_of_lt_of_le (hnx n b hn) (tr_astep hc tr h3 h4).next⟩, fun _ _ _ => rfl, rfl⟩
          obtain ⟨f1, f2, f3, f4⟩ := frame_set hok tr hI ho hni hs.le (v' := u1) (by rw [← hV]; exact hv.mono (hup (i + 1) (Nat.le_refl _) (by omega)))
          have hnm : newM ops i m = i + 1 := by unfold newM; rw [if_pos hmem]; omega
          obtain ⟨n1, n2, n3, n4⟩ := newM_facts hI ho
          rw [hnm] at n1 n2 n3 n4
          refine hk (i + 1) r1 w1 _ ⟨by simpa using hI.sz, closed_set hI ho hready, n1, n3, n4, ?_, hs.rel.fn, by rw [hS1]; exact hs.rel.inj, ?_, f1, f2, f3, f4, hI.le.trans hs.le, ?_, Nat.le_trans hI.size hs.size, ?_, hs.os.trans hI.os, hs.tape.trans hI.tape, hs.output.trans hI.output⟩
          · intro n b hn
            refine ⟨(live_set hi hI.sz).2 ?_, (hs.rel.lt n b hn).2⟩
            rcases hs.fresh n b hn with h3 | ⟨h3, _⟩
            · exact .inl (hI.lt n b h3).1
            · exact .inr ⟨h3, hnx n b hn⟩
          · intro j n ob hj hsolo hn hnj hg
            rw [hS1] at hg
            obtain ⟨b, o', h5, h6, h7⟩ := hs.rel.obj n ob hg
            have hji : i + 1 ≤ j := hsolo i ((In.set hi hI.sz).2 (.inl rfl)) h2
            exact ⟨b, o', h5, h6, h7.mono (hup j hji hj) h5⟩
          · intro n b hn
            rcases hs.fresh n b hn with h3 | ⟨h3, h4⟩
            · exact hI.fresh n b h3
            · have hnx0 := hA.next
              rcases h4 with h4 | ⟨k, h4, h5, h6⟩
              · have := hI.size
                exact .inr ⟨by omega, .inl (by omega)⟩
              · rcases hI.fresh k b h4 with h7 | ⟨h7, h8⟩
                · refine .inr ⟨by omega, .inr ⟨k, h7, ?_, by rw [← hA.lim]; exact h6⟩⟩
                  intro hd
                  exact h5 (hA.dead k (h0.lt k b h7).1 hd)
                · exact .inr ⟨by omega, h8⟩
          · intro b hb hd
            have := hI.size
            rw [hs.frame b (by omega) ?_, hI.frame b hb hd]
            intro n hn
            rcases hI.fresh n b hn with h3 | ⟨_, h4 | ⟨k, h4, h5, h6⟩⟩
            · rcases hd n h3 with h7 | h7
              · exact .inl (hA.dead n (h0.lt n b h3).1 h7)
              · exact .inr (by rw [hA.lim]; exact h7)
            · omega
            · rcases hd k h4 with h7 | h7
              · exact absurd h7 h5
              · omega
        · -- new blocks alone
          have hRl : (restrictH (kindOf ops (predTab ops.toList []) i) ((predTab ops.toList []).getD i 0) (G i) (S i)).lim = (S i).next := by
            have hk01 := (kind_cases ops i).resolve_right h2
            unfold restrictH
            rcases hk01 with h | h
            · rw [beq_of h]; first | done | rfl
            · rw [beq_ne (show kindOf ops (predTab ops.toList []) i ≠ 0 by omega), cond_false, beq_of h, cond_true]
          have hW : WRel (r.upto (S i).next) (restrictH (kindOf ops (predTab ops.toList []) i) ((predTab ops.toList []).getD i 0) (G i) (S i)) w := by
            have hRn : (restrictH (kindOf ops (predTab ops.toList []) i) ((predTab ops.toList []).getD i 0) (G i) (S i)).next = (S i).next := by
              unfold restrictH
              cases Nat.beq (kindOf ops (predTab ops.toList []) i) 0 <;> cases Nat.beq (kindOf ops (predTab ops.toList []) i) 1 <;> rfl
            have hRt : (restrictH (kindOf ops (predTab ops.toList []) i) ((predTab ops.toList []).getD i 0) (G i) (S i)).t = (S i).t := by
              unfold restrictH
              cases Nat.beq (kindOf ops (predTab ops.toList []) i) 0 <;> cases Nat.beq (kindOf ops (predTab ops.toList []) i) 1 <;> rfl
            have hRg : (restrictH (kindOf ops (predTab ops.toList []) i) ((predTab ops.toList []).getD i 0) (G i) (S i)).glob = (S i).glob := by
              unfold restrictH
              cases Nat.beq (kindOf ops (predTab ops.toList []) i) 0 <;> cases Nat.beq (kindOf ops (predTab ops.toList []) i) 1 <;> rfl
            have hseen := fun {n : Nat} {ob : AObj} hg => seen_now hc hok tr hI ho hni hready h2 h0.top (n := n) (ob := ob) hg
            refine ⟨by rw [hRn]; exact hA.sm h0.small, fun n b hn => ⟨by rw [hRn]; exact hn.2, (hI.lt n b hn.1).2⟩, fun n b b' h3 h4 => hI.fn n b b' h3.1 h4.1, ?_, ?_, ?_, by rw [hRn, hRt]; exact hA.top h0.top, fun n b hn hl => by rw [hRl] at hl; exact absurd hn.2 (by omega), fun b hb => hI.rob h0 b (show r.ro b from hb)⟩
            · intro n k b h3 h4 h5 h6
              obtain ⟨ob, hob⟩ := Option.ne_none_iff_exists'.1 h3
              obtain ⟨ok, hobk⟩ := Option.ne_none_iff_exists'.1 h4
              obtain ⟨_, _, _, e1⟩ := hseen hob
              obtain ⟨_, _, _, e2⟩ := hseen hobk
              exact hI.inj n k b (by rw [e1]; simp) (by rw [e2]; simp) h5.1 h6.1
            · intro n ob hg
              obtain ⟨k1, k2, k3, k4⟩ := hseen hg
              have hmem : Mem ops i := mem_of_kind hi (by rw [k1]; decide)
              have hsol : ∀ k, In ops listed k → kindOf ops (predTab ops.toList []) k = 2 → k < i := by
                intro k hkk h8
                have hne : k ≠ i := by rintro rfl; exact hni hkk
                rcases kind_two h8 hmem hne with h9 | h9
                · exact absurd (in_closed hI k hkk i h9) hni
                · exact ok_lt hok hi h9
              obtain ⟨b, o', h5, h6, h7⟩ := hI.obj i n ob (by omega) hsol k3 k2 k4
              exact ⟨b, o', ⟨h5, k2⟩, h6, h7⟩
            · intro g hg
              rw [hRg] at hg
              have h3 := h0.glob g (by rw [← hA.gl]; exact hg)
              exact ⟨hI.le.rel g g h3, Nat.lt_of_lt_of_le (h0.lt g g h3).1 hA.next⟩
          refine opS_ok ⟨hN, hC, hW, fun x => ?_⟩ hop ho1 K Q ?_
          · have hRg : (restrictH (kindOf ops (predTab ops.toList []) i) ((predTab ops.toList []).getD i 0) (G i) (S i)).glob = (S i).glob := by
              unfold restrictH
              cases Nat.beq (kindOf ops (predTab ops.toList []) i) 0 <;> cases Nat.beq (kindOf ops (predTab ops.toList []) i) 1 <;> rfl
            exact look_ev hc hok tr h0 hI ho hni hready x
          intro r1 w1 u1 hs hv
          have hRn : (restrictH (kindOf ops (predTab ops.toList []) i) ((predTab ops.toList []).getD i 0) (G i) (S i)).next = (S i).next := by
            unfold restrictH
            cases Nat.beq (kindOf ops (predTab ops.toList []) i) 0 <;> cases Nat.beq (kindOf ops (predTab ops.toList []) i) 1 <;> rfl
          have hnx1 : σ1.next = (S (i + 1)).next := by rw [← hS]
          have hold : ∀ n b, r1.rel n b → (r.upto (S i).next).rel n b ∨ ((S i).next ≤ n ∧ w.heap.size ≤ b) := by
            intro n b hn
            rcases hs.fresh n b hn with h3 | ⟨h3, h4 | ⟨k, h4, h5, h6⟩⟩
            · exact .inl h3
            · exact .inr ⟨by rw [hRn] at h3; exact h3, h4⟩
            · rw [hRl] at h6
              have := h4.2; omega
          let r' : Ren := { rel := fun n b => r.rel n b ∨ r1.rel n b, bs := fun b => if b < w.heap.size then r.bs b else r1.bs b, ro := r.ro }
          have hle : r.le r' := ⟨fun n b hn => .inl hn, fun n b hn => by simp only [r']; rw [if_pos (hI.lt n b hn).2], rfl⟩
          have hle1ro : r'.ro = r1.ro := by have := hs.le.ro; exact this.symm
          have hle1 : r1.le r' := ⟨fun n b hn => .inr hn, fun n b hn => by
            simp only [r']
            rcases hold n b hn with h3 | ⟨_, h3⟩
            · rw [if_pos (hI.lt n b h3.1).2]; exact (hs.le.bs n b h3).symm
            · rw [if_neg (by omega)], hle1ro⟩
          have hle1u : r1.le (r'.upto (S (i + 1)).next) := ⟨fun n b hn => ⟨hle1.rel n b hn, by rw [← hnx1]; exact (hs.rel.lt n b hn).1⟩, hle1.bs, hle1.ro⟩
          have hnew : ∀ n b, (S i).next ≤ n → n < (S (i + 1)).next → r'.rel n b → r1.rel n b := by
            rintro n b h3 h4 (hn | hn)
            · exfalso
              rcases (hI.lt n b hn).1 with h5 | ⟨k, hkk, h5, h6⟩
              · have := hA.next; omega
              · have hki : k ≠ i := by rintro rfl; exact hni hkk
                rcases Nat.lt_or_gt_of_ne hki with h7 | h7
                · have := (tr_astep hc tr (show k + 1 ≤ i by omega) (by omega)).next; omega
                · have := (tr_astep hc tr (show i + 1 ≤ k by omega) (by have := hkk.1; omega)).next; omega
            · exact hn
          have hgetn : ∀ n ob, (S i).next ≤ n → (S (i + 1)).get n = some ob → n < (S (i + 1)).next → σ1.get n = some ob := by
            intro n ob h3 hg h4
            rw [← hS] at hg
            simp only [AHeap.get] at hg ⊢
            cases hh : hidden (S i).hid n with
            | true => rw [hh] at hg; simp at hg
            | false =>
              rw [hh, cond_false] at hg
              have hmem : Mem ops i := range_mem hc tr hi h3 h4
              have hk1 : KD ops i = 1 := ((kind_cases ops i).resolve_right h2).resolve_left (kind_of_mem hmem)
              have hhid : σ1.hid = ((G i).filter fun x => !((predTab ops.toList []).getD i 0).testBit x.1).map (fun x => x.2) ++ (S i).hid := by
                rw [hopA.hid]
                unfold restrictH
                rw [beq_ne (show kindOf ops (predTab ops.toList []) i ≠ 0 by rw [show kindOf ops (predTab ops.toList []) i = 1 from hk1]; decide), cond_false, beq_of (show kindOf ops (predTab ops.toList []) i = 1 from hk1), cond_true]
              have hno : ∀ l : List (Nat × Nat), (∀ p q, (p, q) ∈ l → q ≤ n) → hidden l n = false := by
                intro l
                induction l with
                | nil => intro _; rfl
                | cons x l ih =>
                  intro hl
                  obtain ⟨p, q⟩ := x
                  have := hl p q (by simp)
                  have h8 : Nat.blt n q = false := by
                    cases hb : Nat.blt n q with
                    | false => rfl
                    | true => have := Nat.blt_eq ▸ hb; omega
                  simp [hidden, ih (fun p q hpq => hl p q (by simp [hpq])), h8]
              have happ : ∀ (l l' : List (Nat × Nat)), hidden (l ++ l') n = (hidden l n || hidden l' n) := by
                intro l l'
                induction l with
                | nil => simp [hidden]
                | cons x l ih => obtain ⟨p, q⟩ := x; simp [hidden, ih, Bool.or_assoc]
              have hz : hidden σ1.hid n = false := by
                rw [hhid, happ, hh, Bool.or_false]
                refine hno _ ?_
                intro p q hpq
                obtain ⟨⟨k, p', q'⟩, hx, he⟩ := List.mem_map.1 hpq
                simp only [Prod.mk.injEq] at he
                obtain ⟨rfl, rfl⟩ := he
                obtain ⟨g1, g2, g3, g4⟩ := (tr_G tr (show i ≤ ops.size by omega) k p' q').1 (List.mem_filter.1 hx).1
                have := (tr_astep hc tr (show k + 1 ≤ i by omega) (by omega)).next
                omega
              rw [hz, cond_false]; exact hg
          have hlim : ∀ n b, (r.upto (S i).next).rel n b → n < (S i).next := fun n b hn => hn.2
          refine hk (newM ops i m) r' w1 _ (inv_quiet hc hok tr hI ho hni hready (.inl h2) hle ?_ hs.size ?_ ?_ ?_ ?_ ?_ hs.os hs.tape hs.output)
          · intro b hb
            refine hs.frame b hb ?_
            intro n hn
            right; rw [hRl]; exact hn.2
          · rintro n b (hn | hn)
            · exact .inl hn
            · rcases hold n b hn with h3 | ⟨h3, h4⟩
              · exact .inl h3.1
              · have := hs.rel.lt n b hn
                exact .inr ⟨h3, by rw [← hnx1]; exact this.1, h4, this.2⟩
          · intro n b b' h3 h4 h5
            by_cases hn : n < (S (i + 1)).next
            · exact hs.rel.fn n b b' (hnew n b h3 hn h4) (hnew n b' h3 hn h5)
            · have h6 : ∀ c, r'.rel n c → r.rel n c := by
                rintro c (h | h)
                · exact h
                · have := (hs.rel.lt n c h).1; omega
              exact hI.fn n b b' (h6 b h4) (h6 b' h5)
          · intro n k b h3 h4 h5 h6 h7 h8
            have htop1 := hA1.top (hA.top h0.top)
            have hlt : ∀ n, (S (i + 1)).get n ≠ none → n < (S (i + 1)).next := by
              intro n hn
              by_cases h : n < (S (i + 1)).next
              · exact h
              · exfalso; apply hn
                unfold AHeap.get
                rw [htop1 n (by omega)]
                cases hidden (S (i + 1)).hid n <;> rfl
            obtain ⟨ob, hob⟩ := Option.ne_none_iff_exists'.1 h5
            obtain ⟨ok, hobk⟩ := Option.ne_none_iff_exists'.1 h6
            exact (by rw [hle1ro]; exact id : (n = k ∨ r1.ro b) → (n = k ∨ r'.ro b)) <| hs.rel.inj n k b (by rw [hgetn n ob h3 hob (hlt n h5)]; simp) (by rw [hgetn k ok h4 hobk (hlt k h6)]; simp) (hnew n b h3 (hlt n h5) h7) (hnew k b h4 (hlt k h6) h8)
          · intro n ob h3 hg h4
            obtain ⟨b, o', h5, h6, h7⟩ := hs.rel.obj n ob (hgetn n ob h3 hg h4)
            exact ⟨b, o', .inr h5, h6, h7.mono hle1u h5⟩
          · rw [← hV]; exact hv.mono hle1u
    · simp at h1
  · rename_i hwant
    rw [look_wanted hc hok tr hI ho hni hready hwant]
    simp only [Bool.false_eq_true, if_false]
    simp only [Option.some.injEq, Prod.mk.injEq] at h1
    obtain ⟨hV, hS⟩ := h1
    refine hk (newM ops i m) r w _ (inv_quiet hc hok tr hI ho hni hready (.inr hS.symm) (.refl r) (fun _ _ => rfl) (Nat.le_refl _) (fun n b hn => .inl hn) (fun n b b' _ h3 h4 => hI.fn n b b' h3 h4) ?_ ?_ ?_ rfl rfl rfl)
    · intro n k b h3 h4 h5 h6 h7 h8
      exfalso
      have htop := hA.top h0.top
      apply h5
      rw [← hS]
      unfold AHeap.get
      rw [htop n h3]
      cases hidden (S i).hid n <;> rfl
    · intro n ob h3 hg h4
      exfalso; rw [← hS] at h4; omega
    · rw [← hV]; exact .undef _
  · simp at h1

end


/-! ### The whole region -/
section
variable {P : Program} {call : Caller} {ops : Array Oper} {T : Nat → List Value} {S : Nat → AHeap} {V : Nat → Value} {G : Nat → List (Nat × Nat × Nat)}

theorem countP_set {n i : Nat} {listed : Array Bool} (hi : i < n) (hsz : listed.size = n) (hni : listed.getD i false = false) :
    (List.range n).countP (fun k => !(listed.setIfInBounds i true).getD k false) + 1 = (List.range n).countP (fun k => !listed.getD k false) := by
  have key : ∀ l : List Nat, l.Nodup → (i ∈ l → l.countP (fun k => !(listed.setIfInBounds i true).getD k false) + 1 = l.countP (fun k => !listed.getD k false)) ∧
      (i ∉ l → l.countP (fun k => !(listed.setIfInBounds i true).getD k false) = l.countP (fun k => !listed.getD k false)) := by
    intro l
    induction l with
    | nil => intro _; simp
    | cons x l ih =>
      intro hn
      obtain ⟨h1, h2⟩ := List.nodup_cons.1 hn
      obtain ⟨ih1, ih2⟩ := ih h2
      have hself : (listed.setIfInBounds i true).getD i false = true := by
        simp [Array.getD_eq_getD_getElem?, Array.getElem?_setIfInBounds, hsz, hi]
      have hother : ∀ k, k ≠ i → (listed.setIfInBounds i true).getD k false = listed.getD k false := by
        intro k hk
        simp only [Array.getD_eq_getD_getElem?, Array.getElem?_setIfInBounds_ne (Ne.symm hk)]
      constructor
      · intro hm
        by_cases hx : x = i
        · subst hx
          rw [List.countP_cons, List.countP_cons, ih2 h1, hself, hni]; simp
        · have hm' : i ∈ l := by
            rcases List.mem_cons.1 hm with h | h
            · exact absurd h.symm hx
            · exact h
          rw [List.countP_cons, List.countP_cons, ← ih1 hm', hother x hx]; omega
      · intro hm
        have hx : x ≠ i := by rintro rfl; exact hm (by simp)
        have hm' : i ∉ l := fun h => hm (by simp [h])
        rw [List.countP_cons, List.countP_cons, ih2 hm', hother x hx]
  exact (key _ List.nodup_range).1 (List.mem_range.2 hi)

theorem ready_spec {listed : Array Bool} (hsz : listed.size = ops.size) {i : Nat} (h : i ∈ Region.ready .any ops listed) : ∃ o, ops[i]? = some o ∧ ¬ In ops listed i ∧ listed.getD i false = false ∧ ∀ e ∈ o.after.toList, Region.binds .any e = true → e.on < ops.size → In ops listed e.on := by
  unfold Region.ready at h
  obtain ⟨h1, h2⟩ := List.mem_filter.1 h
  have hi := List.mem_range.1 h1
  obtain ⟨o, ho⟩ := op_at hi
  refine ⟨o, ho, ?_⟩
  simp only [Bool.and_eq_true, Bool.not_eq_true', ho, Option.map_some, Option.getD_some] at h2
  have hd : listed.getD i false = listed.getD i true := by
    simp [Array.getD_eq_getD_getElem?, Array.getElem?_eq_getElem (show i < listed.size by omega)]
  refine ⟨fun h => by rw [In, hd, h2.1] at h; simp at h, by rw [hd]; exact h2.1, ?_⟩
  intro e he hb hlt
  have h3 := h2.2
  rw [Array.all_eq_true'] at h3
  have := h3 e (by simpa using he)
  rw [hb] at this
  exact ⟨hlt, by simpa using this⟩

theorem not_ready {listed : Array Bool} (hok : okDraw ops (predTab ops.toList []) = true) (hsz : listed.size = ops.size) (h : Region.ready .any ops listed = []) : ∀ i, i < ops.size → In ops listed i := by
  intro i
  induction i using Nat.strongRecOn with
  | _ i ih =>
    intro hi
    obtain ⟨o, ho⟩ := op_at hi
    refine ⟨hi, ?_⟩
    cases hl : listed.getD i false with
    | true => rfl
    | false =>
      exfalso
      have : i ∈ Region.ready .any ops listed := by
        unfold Region.ready
        refine List.mem_filter.2 ⟨List.mem_range.2 hi, ?_⟩
        have hd : listed.getD i true = false := by
          rw [← hl]; simp [Array.getD_eq_getD_getElem?, Array.getElem?_eq_getElem (show i < listed.size by omega)]
        simp only [hd, Bool.not_false, Bool.true_and, ho, Option.map_some, Option.getD_some]
        rw [Array.all_eq_true']
        intro e he
        cases hb : Region.binds .any e with
        | false => simp
        | true =>
          have he' : e ∈ o.after.toList := by simpa using he
          have hlt := ok_lt hok hi (PB.of_edge ho he' hb)
          have := (ih e.on hlt (by omega)).2
          simp [this]
      rw [h] at this; simp at this

theorem draw_any {P : Program} (hob : okObl (S ops.size)) (hN : NoNum P) (hC : CallOK P call) (hc : CallA call) (hok : okDraw ops (predTab ops.toList []) = true)
    (tr : Trace P call ops (kindOf ops (predTab ops.toList [])) (fun i => (predTab ops.toList []).getD i 0) T S V G) {r0 : Ren} {w0 : World} {a0 : Act} (h0 : WRel r0 (S 0) w0) {Q : Exit → Act → World → Prop}
    (hq : ∀ r' w' a', Step r0 (S 0) w0 r' (S ops.size) w' → TRel r' (T ops.size) a' → a'.defers = a0.defers → Q .normal a' w') :
    ∀ (fuel : Nat) (listed : Array Bool) (m : Nat) (r : Ren) (w : World) (a : Act), Inv ops T S V r0 w0 a0 listed m r w a → (List.range ops.size).countP (fun k => !listed.getD k false) = fuel → wpAny P .any ops Q fuel listed a w := by
  have fin : ∀ (listed : Array Bool) (m : Nat) (r : Ren) (w : World) (a : Act), Inv ops T S V r0 w0 a0 listed m r w a → (∀ i, i < ops.size → In ops listed i) → Q .normal a w := by
    intro listed m r w a hI hall
    have hA := tr_astep hc tr (Nat.zero_le ops.size) (Nat.le_refl _)
    have htop := hA.top h0.top
    have hsame : ∀ n, n < (S m).next → (S ops.size).get n = (S m).get n := fun n hn =>
      tr_keep hc tr hI.mle (Nat.le_refl _) (fun k h5 h6 h7 => hI.m1 k h5 (mem_of_kind h6 (by rw [show KD ops k = 2 from h7]; decide)) (hall k h6)) n hn
    have hlt : ∀ n, Live S ops listed n → n < (S ops.size).next := by
      intro n hn
      have := live_next hc tr hI hn
      have := (tr_astep hc tr hI.mle (Nat.le_refl ops.size)).next
      omega
    have hlive : ∀ n ob, (S ops.size).get n = some ob → Live S ops listed n := by
      intro n ob hg
      have hn : n < (S ops.size).next := by
        by_cases hn : n < (S ops.size).next
        · exact hn
        · unfold AHeap.get at hg
          rw [htop n (by omega)] at hg
          cases hidden (S ops.size).hid n <;> simp at hg
      by_cases hn0 : n < (S 0).next
      · exact .inl hn0
      · obtain ⟨k, hki, h3, h4⟩ := tr_by (Nat.le_refl ops.size) (by omega) hn
        exact .inr ⟨k, hall k hki, h3, h4⟩
    have hlive' : ∀ n, (S ops.size).get n ≠ none → Live S ops listed n := by
      intro n hn
      obtain ⟨ob, hob⟩ := Option.ne_none_iff_exists'.1 hn
      exact hlive n ob hob
    refine hq r w a ⟨hI.le, hI.fresh, ⟨hA.sm h0.small, fun n b hn => ⟨hlt n (hI.lt n b hn).1, (hI.lt n b hn).2⟩, hI.fn, ?_, ?_, fun g hg => hI.le.rel g g (h0.glob g (by rw [← hA.gl]; exact hg)), htop, fun n b hn hl => hI.wr h0 n b hn (by rw [hA.lim] at hl; exact hl), hI.rob h0⟩, hI.size, hI.frame, hA.dead, hA.keep, hA.next, hA.lim, hA.hid, hA.gl, hI.os, hI.tape, hI.output⟩ ?_ hI.defers
    · intro n k b h3 h4 h5 h6
      have e1 := hsame n (live_next hc tr hI (hlive' n h3))
      have e2 := hsame k (live_next hc tr hI (hlive' k h4))
      exact hI.inj n k b (e1 ▸ h3) (e2 ▸ h4) h5 h6
    · intro n ob hg
      have hl := hlive n ob hg
      rw [hsame n (live_next hc tr hI hl)] at hg
      obtain ⟨b, o', h5, h6, h7⟩ := hI.obj ops.size n ob (Nat.le_refl _) (fun k hk _ => hk.1) hl (hlt n hl) hg
      exact ⟨b, o', h5, h6, h7.mono (r.upto_le_self _) (n := n) ⟨h5, hlt n hl⟩⟩
    · refine TRel.of_at (by rw [tr_len tr (Nat.le_refl _), hI.len]) ?_
      intro t
      by_cases hex : ∃ (k : Nat) (ok : Oper), ops[k]? = some ok ∧ ok.dst = some t
      · obtain ⟨k, ok, hko, hd⟩ := hex
        have hk := lt_of_op hko
        rw [tr_new hok tr (Nat.le_refl _) hk hko hd]
        exact (hI.tnew t k ok (hall k hk) hko hd).mono (r.upto_le_self _)
      · have hno : ∀ (k : Nat) (ok : Oper), ops[k]? = some ok → ok.dst ≠ some t := fun k ok h2 h3 => hex ⟨k, ok, h2, h3⟩
        rw [tr_old tr (Nat.le_refl _) (t := t) (fun k o _ => hno k o)]
        exact (hI.told t fun k ok _ => hno k ok).mono (r.upto_le_self _)
  have stepI : ∀ (listed : Array Bool) (m : Nat) (r : Ren) (w : World) (a : Act), Inv ops T S V r0 w0 a0 listed m r w a → ∀ i ∈ Region.ready .any ops listed, ∃ o, ops[i]? = some o ∧ ¬ In ops listed i ∧ listed.getD i false = false ∧ ∀ e ∈ o.after.toList, Region.binds .any e = true → In ops listed e.on := by
    intro listed m r w a hI i hi
    obtain ⟨o, ho, h1, h2, h3⟩ := ready_spec hI.sz hi
    exact ⟨o, ho, h1, h2, fun e he hb => h3 e he hb (by have := ok_lt hok (lt_of_op ho) (PB.of_edge ho he hb); have := lt_of_op ho; omega)⟩
  intro fuel
  induction fuel with
  | zero =>
    intro listed m r w a hI hcount
    have hall : ∀ i, i < ops.size → In ops listed i := by
      intro i hi
      refine ⟨hi, ?_⟩
      cases hl : listed.getD i false with
      | true => rfl
      | false =>
        have := List.countP_eq_zero.1 hcount i (List.mem_range.2 hi)
        rw [hl] at this; simp at this
    refine ⟨?_, fin listed m r w a hI hall⟩
    cases hr : Region.ready .any ops listed with
    | nil => rfl
    | cons x xs =>
      obtain ⟨o, ho, h1, _⟩ := stepI listed m r w a hI x (by rw [hr]; simp)
      exact absurd (hall x (lt_of_op ho)) h1
  | succ fuel ih =>
    intro listed m r w a hI hcount
    refine ⟨fun hr => fin listed m r w a hI (not_ready hok hI.sz hr), ?_⟩
    intro i hi
    obtain ⟨o, ho, h1, h2, h3⟩ := stepI listed m r w a hI i hi
    refine inv_step hN hC hc hok tr h0 hI ho h1 h3 hob ?_
    intro m' r' w' a' hI'
    refine ih _ m' r' w' a' hI' ?_
    have := countP_set (lt_of_op ho) hI.sz h2
    omega

theorem draw_ok {P : Program} (hN : NoNum P) (hC : CallOK P call) (hc : CallA call) (hm : P.follows .mixedOrders = true) {id : Nat} {Q : Exit → Act → World → Prop} {τ τ' : List Value} {σ σ' : AHeap} {r : Ren} {w : World} {a : Act}
    (h : absDraw P call ops τ σ = some (τ', σ')) (hob : okObl σ') (hw : WRel r σ w) (ht : TRel r τ a) (hq : ∀ r' w' a', Step r σ w r' σ' w' → TRel r' τ' a' → a'.defers = a.defers → Q .normal a' w') : (Code.region id ops true).wp P Q a w := by
  obtain ⟨hok, T, S, V, G, tr, rfl, rfl, rfl, rfl⟩ := drawTrace h
  refine wp_region_any hm ?_
  have hwd : WRel r (S 0) { w with drawn := w.drawn + 1 } := hw.world rfl
  refine draw_any hob hN hC hc hok tr hwd (a0 := a) ?_ ops.size _ 0 r _ a ?_ ?_
  · intro r' w' a' hs ht' hd
    exact hq r' w' a' (Step.trans hw (Step.drew hw (w.drawn + 1)) hs) ht' hd
  · have hno : ∀ i, ¬ In ops (Array.replicate ops.size false) i := by
      rintro i ⟨h1, h2⟩
      simp [Array.getD_eq_getD_getElem?, h1] at h2
    have hup : r.le (r.upto (S 0).next) := ⟨fun n b hn => ⟨hn, (hw.lt n b hn).1⟩, fun _ _ _ => rfl, rfl⟩
    have hupj : ∀ j, j ≤ ops.size → r.le (r.upto (S j).next) := fun j hj => ⟨fun n b hn => ⟨hn, Nat.lt_of_lt_of_le (hw.lt n b hn).1 (tr_astep hc tr (Nat.zero_le j) hj).next⟩, fun _ _ _ => rfl, rfl⟩
    refine ⟨by simp, fun i o _ hin => absurd hin (hno i), Nat.zero_le _, fun i _ _ => hno i, .inl rfl, fun n b hn => ⟨.inl (hwd.lt n b hn).1, (hwd.lt n b hn).2⟩, hwd.fn, hwd.inj, ?_, (by simpa using ht.1.symm), ?_, fun t k o hin => absurd hin (hno k), rfl, .refl r, fun n b hn => .inl hn, Nat.le_refl _, fun _ _ _ => rfl, rfl, rfl, rfl⟩
    · intro j n ob hj _ _ _ hg
      obtain ⟨b, o', h5, h6, h7⟩ := hwd.obj n ob hg
      exact ⟨b, o', h5, h6, h7.mono (hupj j hj) h5⟩
    · intro t _
      exact (ht.at t).mono hup
  · have : ∀ n, (List.range n).countP (fun k => !(Array.replicate n false).getD k false) = n := by
      intro n
      have h1 : (List.range n).countP (fun k => !(Array.replicate n false).getD k false) = (List.range n).countP (fun _ => true) := by
        apply List.countP_congr
        intro k hk
        have := List.mem_range.1 hk
        simp [Array.getD_eq_getD_getElem?, this]
      rw [h1]; simp
    exact this ops.size
end

end Go.Abs
