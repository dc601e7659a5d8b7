/- A7: copy, strings and bytes, len and cap. General over the program. -/
import Derived.Test.YtcadfopmadjanaaA6
namespace Go.Abs
set_option linter.unusedVariables false
set_option linter.unusedSimpArgs false

/-! ### copy -/
def absCopy (P : Program) (dT : TypeId) (dst src : Value) (σ : AHeap) : Option (Value × AHeap) :=
  match P.underlying dT, dst with
  | some (.slice elem), .slice base dLen cap =>
    match size P elem, absCells P elem src σ with
    | some sz, some (l, n) =>
      let k := min n dLen
      match base with
      | none => bif Nat.beq dLen 0 then some (.int .i64 0, σ) else none
      | some a => bif Nat.beq dLen 0 then some (.int .i64 0, σ) else
        match σ.get a.block with
        | some (.cells c e) => bif σ.may a.block then (setsL c a.off (l.take (k * sz))).map fun c => (.int .i64 k, σ.put a.block (some (.cells c e))) else none
        | _ => none
    | _, _ => none
  | _, _ => none
theorem copy_ok {P : Program} {r : Ren} {σ σ' : AHeap} {w : World} {dT xT ty : TypeId} {s s' x x' v : Value} (h : WRel r σ w) (hs : VRel r s s') (hx : VRel r x x') (ha : absCopy P dT s x σ = some (v, σ')) :
    ∃ v' r' w', (Builtin.copy_ #[dT, xT] ty #[s', x']).run P w = .ok v' w' ∧ Step r σ w r' σ' w' ∧ VRel r' v v' := by
  unfold absCopy at ha
  split at ha
  · rename_i elem base dLen cap hu
    split at ha
    · rename_i sz l n hsz hcx
      obtain ⟨q1, q2, l', q3, q4⟩ := absCells_ok h hx hsz hcx
      have q4w : ∀ k, k ≤ n → (Builtin.firstCells sz k x').run P w = .ok (l'.take (k * sz)).toArray w := fun k hk => q4 w.drawn k hk
      have hzero : ∀ b c, dLen = 0 → (Builtin.copy_ #[dT, xT] ty #[.slice b dLen c, x']).run P w = .ok (.int .i64 0) w := by
        intro b c h0
        have h00 : Nat.min n dLen = 0 := by rw [h0]; exact Nat.min_zero n
        have hc := q4w 0 (Nat.zero_le n)
        simp only [Nat.zero_mul, List.take_zero] at hc
        simp only [Builtin.copy_, List.getElem?_toArray, List.getElem?_cons_zero, List.getElem?_cons_succ, Sem.run_bind, run_underlying hu, Result.andThen_ok, q1, h00, run_size hsz, hc]
        cases b <;> simp [storeCells, goInt]
      simp only at ha
      split at ha
      · by_cases h0 : Nat.beq dLen 0 = true
        · rw [h0, cond_true] at ha
          simp only [Option.some.injEq, Prod.mk.injEq] at ha
          obtain ⟨rfl, rfl⟩ := ha
          obtain rfl := hs.nilslice_inv
          exact ⟨_, r, w, hzero _ _ (Nat.eq_of_beq_eq_true h0), Step.refl h, .atom _ rfl⟩
        · simp only [Bool.not_eq_true] at h0; rw [h0, cond_false] at ha; simp at ha
      · rename_i a
        by_cases h0 : Nat.beq dLen 0 = true
        · rw [h0, cond_true] at ha
          simp only [Option.some.injEq, Prod.mk.injEq] at ha
          obtain ⟨rfl, rfl⟩ := ha
          obtain ⟨s, c', rfl⟩ := hs.slice_shape
          exact ⟨_, r, w, hzero _ _ (Nat.eq_of_beq_eq_true h0), Step.refl h, .atom _ rfl⟩
        · have h0' : dLen ≠ 0 := fun e => h0 (beq_of e)
          obtain ⟨b, o', c', rfl, hsp, hr, hcs⟩ := hs.slice_inv (fun e => h0' e.1)
          simp only [Bool.not_eq_true] at h0
          rw [h0, cond_false] at ha
          obtain rfl : o' = a.off := by
            rcases hcs with h1 | h1 | ⟨_, _, h1, _⟩
            · exact h1.1
            · exact absurd h1.1 h0'
            · exact h1
          split at ha
          · rename_i c e hg
            by_cases hm : σ.may a.block = true
            · rw [hm, cond_true] at ha
              obtain ⟨m, hset, heq⟩ := Option.map_eq_some_iff.1 ha
              simp only [Prod.mk.injEq] at heq
              obtain ⟨rfl, rfl⟩ := heq
              obtain ⟨b', ob, hb', hw, ho⟩ := h.obj _ _ hg
              obtain rfl := h.fn _ _ _ hr hb'
              cases ho with
              | cells c c2 e fz hlen hf0 hbs hcr =>
                have hf := hf0.resolve_left (h.wr _ b hr (by simpa [AHeap.may] using hm))
                have q5 := q3.take (min n dLen * sz)
                obtain ⟨s1, s2, s3, s4⟩ := setsL_spec hset q5 hlen hcr
                have hc := q4w (min n dLen) (Nat.min_le_left n dLen)
                refine ⟨.int .i64 (min n dLen : Nat), r, { w with heap := w.heap.setIfInBounds b (.cells (setMany c2 a.off (l'.take (min n dLen * sz))) e fz) }, ?_, ?_, .atom _ rfl⟩
                · have hmin : Nat.min n dLen = min n dLen := rfl
                  simp only [Builtin.copy_, List.getElem?_toArray, List.getElem?_cons_zero, List.getElem?_cons_succ, Sem.run_bind, run_underlying hu, Result.andThen_ok, q1, run_size hsz, hmin, hc]
                  by_cases hn0 : l'.take (min n dLen * sz) = []
                  · rw [hn0]
                    simp only [storeCells, Sem.run_pure, Result.andThen_ok, setMany, goInt]
                    congr 1
                    have : w.heap.setIfInBounds b (.cells c2 e fz) = w.heap := by
                      apply Array.ext_getElem?
                      intro i
                      rw [Array.getElem?_setIfInBounds]
                      by_cases hi : b = i
                      · subst hi; rw [hw]; simp [(h.lt _ b hr).2]
                      · simp [hi]
                    rw [this]
                  · have hle : a.off + 0 + (l'.take (min n dLen * sz)).length ≤ c2.size := by
                      rcases s1 with s1 | s1
                      · exact absurd (by have := q5.1; rw [s1] at this; simpa using this.symm) hn0
                      · have := q5.1; omega
                    have hst := run_storeCells (P := P) (off := a.off) (fz := fz) (l'.take (min n dLen * sz)) 0 w c2 hw hf s4 hle
                    rw [hst, if_neg hn0, Nat.add_zero]
                    simp only [Result.andThen_ok, Sem.run_pure, goInt]
                · exact Step.put h hg hr hm (.cells m _ e fz (by rw [setMany_size]; omega) (.inr (by rw [setMany_size]; exact hf)) (by rw [setMany_size]; exact hbs) (by rw [s2]; exact s3))
            · simp only [Bool.not_eq_true] at hm; rw [hm, cond_false] at ha; simp at ha
          · simp at ha
    · simp at ha
  · simp at ha

/-! ### Strings and bytes -/
def numsL : List Value → Option (List Int)
  | [] => some []
  | .int .u8 n :: l => (numsL l).map (n :: ·)
  | _ => none
theorem numsL_spec : ∀ {l : List Value} {xs : List Int}, numsL l = some xs → l = xs.map (Value.int .u8)
  | [], xs, h => by simp only [numsL, Option.some.injEq] at h; subst h; rfl
  | v :: l, xs, h => by
    cases v with
    | int k n => cases k <;> simp only [numsL, Option.map_eq_some_iff] at h <;> first | (obtain ⟨ys, hy, rfl⟩ := h; rw [numsL_spec hy]; rfl) | simp at h
    | _ => simp [numsL] at h

def absToString (P : Program) (sT dT : TypeId) (x : Value) (σ : AHeap) : Option Value :=
  match P.underlying sT, P.underlying dT with
  | some (.slice e), some .string =>
    match P.underlying e with
    | some (.int .u8) =>
      match x with
      | .slice none _ _ => some (.string ByteArray.empty)
      | .slice (some a) n cap => bif Nat.beq cap UNK3 then none else match σ.get a.block with
        | some (.cells c _) => ((takeN (c.drop a.off) n).bind numsL).map fun xs => .string (strOfNums xs)
        | _ => none
      | _ => none
    | _ => none
  | _, _ => none
theorem toString_ok {P : Program} {r : Ren} {σ : AHeap} {w : World} {sT dT : TypeId} {x x' v : Value} (h : WRel r σ w) (hx : VRel r x x') (ha : absToString P sT dT x σ = some v) :
    (convert sT dT x').run P w = .ok v w ∧ VRel r v v := by
  unfold absToString at ha
  split at ha
  · rename_i e hs hd
    split at ha
    · rename_i he
      split at ha
      · obtain rfl := hx.nilslice_inv
        obtain rfl := Option.some.inj ha
        exact ⟨run_convert_bytes_nil w sT e hs he _ _ dT hd, .atom _ rfl⟩
      · rename_i a n cap
        have hZ : cap ≠ UNK3 := by rintro rfl; rw [beq_of rfl, cond_true] at ha; simp at ha
        rw [beq_ne hZ, cond_false] at ha
        obtain ⟨b, o', c', rfl, hsp, hr, hcs⟩ := hx.slice_inv (fun e => hZ e.2)
        split at ha
        · rename_i c e2 hg
          obtain ⟨xs, hxs, rfl⟩ := Option.map_eq_some_iff.1 ha
          obtain ⟨l, hl, hn⟩ := Option.bind_eq_some_iff.1 hxs
          obtain ⟨g1, rfl⟩ := takeN_spec hl
          have hl2 := numsL_spec hn
          obtain ⟨b', ob, hb', hw, ho⟩ := h.obj _ _ hg
          obtain rfl := h.fn _ _ _ hr hb'
          cases ho with
          | cells c c2 e2 fz hlen hf hbs hcr =>
            simp only [List.length_drop] at g1
            have hlen2 : xs.length = n := by have := congrArg List.length hl2; simp at this; omega
            refine ⟨run_convert_bytes_arg w sT e hs he b o' n c' xs hlen2 ?_ dT hd, .atom _ rfl⟩
            intro i hi
            have hoff : o' = a.off := by
              rcases hcs with h1 | h1 | ⟨_, _, h1, _⟩
              · exact h1.1
              · omega
              · exact h1
            subst hoff
            have hci : c[a.off + i]? = some (.int .u8 (xs.getD i 0)) := by
              have h1 : ((c.drop a.off).take n)[i]? = (xs.map (Value.int .u8))[i]? := by rw [hl2]
              rw [List.getElem?_take, if_pos hi, List.getElem?_drop, List.getElem?_map] at h1
              rw [h1]
              simp [List.getD_eq_getElem?_getD, List.getElem?_eq_getElem (show i < xs.length by omega)]
            obtain ⟨u, hu, hur⟩ := hcr.get hci
            rw [List.getElem?_take] at hu
            split at hu
            · rw [Array.getElem?_toList] at hu
              rw [cell_of hw, hu, hur.int_inv]
            · simp at hu
        · simp at ha
      · simp at ha
    · simp at ha
  · simp at ha

def absToBytes (P : Program) (sT dT : TypeId) (x : Value) (σ : AHeap) : Option (Value × AHeap) :=
  match P.underlying sT, P.underlying dT, x with
  | some .string, some (.slice e), .string s =>
    match P.underlying e with
    | some (.int .u8) => match σ.alloc (.cells (strCells s) e) with
      | some (n, σ') => some (.slice (some ⟨n, 0, none⟩) s.size (UNK + 1), σ')
      | none => none
    | _ => none
  | _, _, _ => none

theorem toBytes_ok {P : Program} {r : Ren} {σ σ' : AHeap} {w : World} {sT dT : TypeId} {x x' v : Value} (h : WRel r σ w) (hx : VRel r x x') (ha : absToBytes P sT dT x σ = some (v, σ')) :
    ∃ v' r' w', (convert sT dT x').run P w = .ok v' w' ∧ Step r σ w r' σ' w' ∧ VRel r' v v' := by
  unfold absToBytes at ha
  split at ha
  · rename_i e s hs hd
    obtain rfl := hx.string_inv
    split at ha
    · rename_i he
      split at ha
      · rename_i n σ1 hal
        simp only [Option.some.injEq, Prod.mk.injEq] at ha
        obtain ⟨rfl, rfl⟩ := ha
        obtain ⟨cap, hcap, hch⟩ := run_choose_cap (P := P) w s.size 0 e
        have hdrew := Step.drew h (w.drawn + 1)
        obtain ⟨A, hA⟩ : ∃ A : Array Value, A = (s.data.map fun (b : UInt8) => Value.int .u8 b.toNat) ++ Array.replicate (cap - s.size) (Value.int .u8 0) := ⟨_, rfl⟩
        have hcells : A.toList = strCells s ++ List.replicate (cap - s.size) (Value.int .u8 0) := by
          rw [hA]; simp [strCells]
        have hlen : (strCells s).length = s.size := by simp only [strCells, List.length_map, Array.length_toList]; rfl
        have hrefl : LRel r (strCells s) (strCells s) := by
          refine ⟨rfl, fun i a b ha hb => ?_⟩
          rw [ha] at hb
          obtain rfl := Option.some.inj hb
          unfold strCells at ha
          rw [List.getElem?_map] at ha
          obtain ⟨x, _, rfl⟩ := Option.map_eq_some_iff.1 ha
          exact .atom _ rfl
        have hsz : A.size = cap := by
          rw [← Array.length_toList, hcells, List.length_append, hlen, List.length_replicate]; omega
        have hle : r.le (r.add n w.heap.size cap) := ⟨fun _ _ hr => Or.inl hr, fun m b hr => by
          have := (h.lt m b hr).2
          simp only [Ren.add]; rw [if_neg (by omega)], rfl⟩
        obtain ⟨e1, e2⟩ := Step.alloc (w := { w with drawn := w.drawn + 1 }) (o' := .cells A e (cap, cap + 1)) cap hdrew.rel hal
          (.cells _ _ e (cap, cap + 1) (by rw [hsz, hlen]; exact hcap) (.inr (by intro _; simp only [hsz]; exact Nat.le_refl _)) (by simp [Ren.add, hsz]) (by
            rw [hcells, List.take_left]; exact hrefl.mono hle))
        refine ⟨.slice (some ⟨w.heap.size, 0, none⟩) s.size cap, _, _, ?_, Step.trans h hdrew e1, .sliceU _ _ _ _ _ _ e2 (by decide) hcap (by simp [Ren.add])⟩
        simp only [convert, Sem.run_bind, run_underlying hs, run_underlying hd, run_underlying he, Result.andThen_ok, Conv.stringToBytes, hch]
        rw [← hA]
        simp only [run_newRow, Result.andThen_ok, markStringish, Sem.run_bind]
        have hshape : (shape w.heap.size).run P { w with drawn := w.drawn + 1, heap := w.heap.push (.cells A e) } = .ok (some (e, A.size)) { w with drawn := w.drawn + 1, heap := w.heap.push (.cells A e) } := by
          simp [shape, Sem.run, World.shape?]
        rw [hshape]
        simp only [Result.andThen_ok, hsz, freeze, Sem.run, Sem.run_pure]
        congr 1
        simp only [World.freeze, Nat.one_ne_zero, if_false]
        congr 1
        apply Array.ext_getElem?
        intro i
        rw [Array.getElem?_modify, Array.getElem?_push, Array.getElem?_push]
        by_cases hi : i = w.heap.size
        · subst hi; simp
        · simp [hi, Ne.symm hi]
      · simp at ha
    · simp at ha
  · simp at ha

/-! ### len and cap -/
def absLen (P : Program) (t : TypeId) (x : Value) (σ : AHeap) : Option Value :=
  match P.underlying t, x with
  | some .string, .string s => some (.int .i64 s.size)
  | some (.slice _), .slice _ n _ => some (.int .i64 n)
  | some (.map ..), .map none => some (.int .i64 0)
  | some (.map ..), .map (some a) => match σ.get a with
    | some (.map es _) => some (.int .i64 es.length)
    | _ => none
  | _, _ => none
theorem len_ok {P : Program} {r : Ren} {σ : AHeap} {w : World} {t ty : TypeId} {x x' v : Value} (h : WRel r σ w) (hx : VRel r x x') (ha : absLen P t x σ = some v) :
    (Builtin.len_ #[t] ty #[x']).run P w = .ok v w ∧ VRel r v v := by
  unfold absLen at ha
  split at ha
  · rename_i s hu
    obtain rfl := hx.string_inv
    obtain rfl := Option.some.inj ha
    exact ⟨by simp [Builtin.len_, run_underlying hu, goInt], .atom _ rfl⟩
  · rename_i a n c hu
    obtain rfl := Option.some.inj ha
    have : ∃ a' c', x' = .slice a' n c' := by
      cases a with
      | none => exact ⟨_, _, hx.nilslice_inv⟩
      | some a => obtain ⟨s, c', rfl⟩ := hx.slice_shape; exact ⟨_, _, rfl⟩
    obtain ⟨a', c', rfl⟩ := this
    exact ⟨by simp [Builtin.len_, run_underlying hu, goInt], .atom _ rfl⟩
  · rename_i hu
    obtain rfl := hx.nilmap_inv
    obtain rfl := Option.some.inj ha
    exact ⟨by simp [Builtin.len_, run_underlying hu, goInt], .atom _ rfl⟩
  · rename_i a hu
    obtain ⟨b, rfl, hr⟩ := hx.map_inv
    split at ha
    · rename_i es clock hg
      obtain rfl := Option.some.inj ha
      obtain ⟨b', ob, hb', hw, ho⟩ := h.obj _ _ hg
      obtain rfl := h.fn _ _ _ hr hb'
      cases ho with
      | map es es' clock hl hh =>
        refine ⟨?_, .atom _ rfl⟩
        simp [Builtin.len_, run_underlying hu, goInt, getObj, Sem.run, hw, hl]
    · simp at ha
  · simp at ha

def absCap (P : Program) (t : TypeId) (x : Value) : Option Value :=
  match P.underlying t, x with
  | some (.slice _), .slice _ _ c => bif Nat.ble UNK c then none else some (.int .i64 c)
  | _, _ => none
theorem cap_ok {P : Program} {r : Ren} {w : World} {t ty : TypeId} {x x' v : Value} (hx : VRel r x x') (ha : absCap P t x = some v) :
    (Builtin.cap_ #[t] ty #[x']).run P w = .ok v w ∧ VRel r v v := by
  unfold absCap at ha
  split at ha
  · rename_i a n c hu
    by_cases hU : Nat.ble UNK c = true
    · rw [hU, cond_true] at ha; simp at ha
    · have hU' : c < UNK := by simp only [Nat.ble_eq] at hU; omega
      simp only [Bool.not_eq_true] at hU
      rw [hU, cond_false] at ha
      obtain rfl := Option.some.inj ha
      have : ∃ a', x' = .slice a' n c := by
        cases a with
        | none => exact ⟨_, hx.nilslice_inv⟩
        | some a =>
          obtain ⟨b, o', c', rfl, _, _, hcs⟩ := hx.slice_inv (lt3 hU' _)
          rcases hcs with ⟨_, rfl, _⟩ | ⟨_, h7⟩ | ⟨k, _, _, hk, _, _⟩
          · exact ⟨_, rfl⟩
          · have : UNK ≤ UNK2 := by decide
            omega
          · omega
      obtain ⟨a', rfl⟩ := this
      exact ⟨by simp [Builtin.cap_, run_underlying hu, goInt], .atom _ rfl⟩
  · simp at ha

end Go.Abs
