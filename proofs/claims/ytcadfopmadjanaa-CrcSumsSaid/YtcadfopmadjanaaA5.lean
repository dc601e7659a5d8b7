/- A5: more operations of the abstract machine: parts of values, values built, new blocks. General over the program. -/
import Derived.Test.YtcadfopmadjanaaA4
namespace Go.Abs
set_option linter.unusedVariables false
set_option linter.unusedSimpArgs false

/-! ### Parts -/
def partL (P : Program) (t : TypeId) (cs : List Value) (off : Nat) : Option Value :=
  match P.underlying t with
  | none => none
  | some (.struct _) | some (.array ..) => (size P t).bind fun n => (takeN (cs.drop off) n).map fun l => .agg l.toArray
  | _ => getL cs off
theorem part_ok {P : Program} {r : Ren} {t : TypeId} {cs : List Value} {cs' : Array Value} {off : Nat} {v : Value} (hc : LRel r cs cs'.toList) (h : partL P t cs off = some v) (w : World) :
    ∃ v', (part t cs' off).run P w = .ok v' w ∧ VRel r v v' := by
  have hagg : ∀ (_ : isAggT P t = true) (_ : (P.underlying t).isSome = true) (hl : ((size P t).bind fun n => (takeN (cs.drop off) n).map fun l => Value.agg l.toArray) = some v),
      ∃ v', (part t cs' off).run P w = .ok v' w ∧ VRel r v v' := by
    intro ha hu hl
    obtain ⟨k, hk, hl2⟩ := Option.bind_eq_some_iff.1 hl
    obtain ⟨l, hl3, hv⟩ := Option.map_eq_some_iff.1 hl2
    obtain ⟨h1, h1'⟩ := takeN_spec hl3
    subst h1' hv
    refine ⟨.agg (cs'.extract off (off + k)), ?_, ?_⟩
    · simp only [part, Sem.run_bind, run_isAgg hu, Result.andThen_ok, ha, if_true, run_size hk, Sem.run_pure]
    · have := VRel.agg' ((hc.drop off).take k)
      have e : cs'.extract off (off + k) = ((cs'.toList.drop off).take k).toArray := by
        apply Array.ext'
        simp
      rw [e]; exact this
  have hone : ∀ (_ : isAggT P t = false) (_ : (P.underlying t).isSome = true) (hl : getL cs off = some v), ∃ v', (part t cs' off).run P w = .ok v' w ∧ VRel r v v' := by
    intro ha hu hl
    rw [getL_eq] at hl
    obtain ⟨v', hv', hvr⟩ := hc.get hl
    refine ⟨v', ?_, hvr⟩
    rw [Array.getElem?_toList] at hv'
    simp only [part, Sem.run_bind, run_isAgg hu, Result.andThen_ok, ha, Bool.false_eq_true, if_false, hv', Sem.run_pure]
  unfold partL at h
  cases hu : P.underlying t with
  | none => rw [hu] at h; simp at h
  | some d =>
    rw [hu] at h
    cases d <;> first | exact hagg (by simp [isAggT, hu]) (by simp [hu]) h | exact hone (by simp [isAggT, hu]) (by simp [hu]) h

def absField (P : Program) (t : TypeId) (x : Value) (f : Nat) : Option Value :=
  match P.underlying t, x with
  | some (.struct fs), .agg cs => match fs[f]? with
    | some fd => partL P fd.type cs.toList fd.offset
    | none => none
  | _, _ => none
theorem field_ok {P : Program} {r : Ren} {t : TypeId} {x x' v : Value} {f : Nat} (hx : VRel r x x') (h : absField P t x f = some v) (w : World) :
    ∃ v', (Instr.field t x' f).run P w = .ok v' w ∧ VRel r v v' := by
  unfold absField at h
  split at h
  · rename_i fs cs hu
    obtain ⟨cs', rfl, hc⟩ := hx.agg_inv
    split at h
    · rename_i fd hfd
      obtain ⟨v', h1, h2⟩ := part_ok hc h w
      exact ⟨v', by simp [Instr.field, run_underlying hu, hfd, asAgg, h1], h2⟩
    · simp at h
  · simp at h

def absExtract (x : Value) (i : Nat) : Option Value :=
  match x with
  | .tuple vs => getL vs.toList i
  | _ => none
theorem extract_ok {P : Program} {r : Ren} {x x' v : Value} {i : Nat} (hx : VRel r x x') (h : absExtract x i = some v) (w : World) :
    ∃ v', (Instr.extract x' i).run P w = .ok v' w ∧ VRel r v v' := by
  unfold absExtract at h
  split at h
  · rename_i vs
    obtain ⟨vs', rfl, hc⟩ := hx.tuple_inv
    rw [getL_eq] at h
    obtain ⟨v', hv', hvr⟩ := hc.get h
    rw [Array.getElem?_toList] at hv'
    exact ⟨v', by simp [Instr.extract, hv'], hvr⟩
  · simp at h

def absIndex (P : Program) (t : TypeId) (x ix : Value) : Option Value :=
  match ix with
  | .int _ (.ofNat i) => match P.underlying t, x with
    | some (.array len elem), .agg cs => match size P elem with
      | some s => bif Nat.blt i len then partL P elem cs.toList (i * s) else none
      | none => none
    | some .string, .string s => match s.data[i]? with
      | some b => some (.int .u8 b.toNat)
      | none => none
    | _, _ => none
  | _ => none
theorem index_ok {P : Program} {r : Ren} {t : TypeId} {x x' ix ix' v : Value} (hx : VRel r x x') (hi : VRel r ix ix') (h : absIndex P t x ix = some v) (w : World) :
    ∃ v', (Instr.index t x' ix').run P w = .ok v' w ∧ VRel r v v' := by
  unfold absIndex at h
  split at h
  · rename_i k i
    obtain rfl := hi.int_inv
    split at h
    · rename_i len elem cs hu
      obtain ⟨cs', rfl, hc⟩ := hx.agg_inv
      split at h
      · rename_i s hs
        by_cases hb : Nat.blt i len = true
        · rw [hb, cond_true] at h
          obtain ⟨v', h1, h2⟩ := part_ok hc h w
          have hlt : i < len := by simpa [Nat.blt_eq] using hb
          exact ⟨v', by simp [Instr.index, run_underlying hu, asIntOf, hlt, run_size hs, h1], h2⟩
        · simp only [Bool.not_eq_true] at hb; rw [hb, cond_false] at h; simp at h
      · simp at h
    · rename_i s hu
      obtain rfl := hx.string_inv
      split at h
      · rename_i b hb
        obtain rfl := Option.some.inj h
        refine ⟨.int .u8 b.toNat, ?_, .atom _ rfl⟩
        have hg : s[i]? = some b := by
          have : i < s.data.size := by
            by_cases hlt : i < s.data.size
            · exact hlt
            · rw [Array.getElem?_eq_none (by omega)] at hb; simp at hb
          rw [Array.getElem?_eq_getElem this] at hb
          have h2 : i < s.size := this
          rw [getElem?_pos s i h2]
          exact hb
        simp [Instr.index, run_underlying hu, asIntOf, hg]
      · simp at h
    · simp at h
  · simp at h

/-! ### Values that are built -/
theorem setAll_rel {r : Ren} (off : Nat) : ∀ {l l' : List Value}, LRel r l l' → ∀ (k : Nat) {c c' : Array Value}, LRel r c.toList c'.toList →
    LRel r ((l.zipIdx k).foldl (fun cs (p : Value × Nat) => cs.setIfInBounds (off + p.2) p.1) c).toList ((l'.zipIdx k).foldl (fun cs (p : Value × Nat) => cs.setIfInBounds (off + p.2) p.1) c').toList
  | [], l', h, k, c, c', hc => by obtain rfl := h.nil_left; simpa using hc
  | a :: l, l', h, k, c, c', hc => by
    obtain ⟨b, m, rfl, hab, hm⟩ := h.cons_left
    simp only [List.zipIdx_cons, List.foldl_cons]
    exact setAll_rel off hm (k + 1) (by simpa using hc.set (off + k) hab)

/-- Parts, one by one. -/
def PRel (r : Ren) : List (Nat × Value) → List (Nat × Value) → Prop
  | [], [] => True
  | a :: l, b :: m => b.1 = a.1 ∧ VRel r a.2 b.2 ∧ PRel r l m
  | _, _ => False

theorem fill_rel {r : Ren} (place : Nat → Option (Nat × Nat)) : ∀ {ps ps' : List (Nat × Value)}, PRel r ps ps' → ps.all (fun p => solid p.2) = true → ∀ {c c' d : Array Value}, LRel r c.toList c'.toList → Instr.fill place c ps = some d →
    ∃ d', Instr.fill place c' ps' = some d' ∧ LRel r d.toList d'.toList
  | [], ps', hp, _, c, c', d, hc, h => by
    cases ps' with
    | nil => simp only [Instr.fill, Option.some.injEq] at h; subst h; exact ⟨c', rfl, hc⟩
    | cons => simp [PRel] at hp
  | (i, v) :: ps, ps', hp, hs, c, c', d, hc, h => by
    cases ps' with
    | nil => simp [PRel] at hp
    | cons q qs =>
      obtain ⟨j, v'⟩ := q
      obtain ⟨h1, h2, h3⟩ := hp
      simp only at h1 h2
      subst h1
      simp only [List.all_cons, Bool.and_eq_true] at hs
      have hcr : LRel r v.cells.toList v'.cells.toList := cells_rel h2 (by rintro k a b rfl; simp [solid] at hs)
      have hsz : v'.cells.size = v.cells.size := by have := hcr.1; simpa using this.symm
      have hcz : c'.size = c.size := by have := hc.1; simpa using this.symm
      simp only [Instr.fill] at h ⊢
      cases hpl : place j with
      | none => rw [hpl] at h; simp at h
      | some os =>
        obtain ⟨off, sz⟩ := os
        rw [hpl] at h
        simp only [hsz, hcz] at h ⊢
        split at h
        · simp at h
        · rename_i hcond
          rw [if_neg hcond]
          refine fill_rel place h3 hs.2 ?_ h
          have e : ∀ (a c : Array Value), a.zipIdx.foldl (fun cs (p : Value × Nat) => cs.setIfInBounds (off + p.2) p.1) c = a.toList.zipIdx.foldl (fun cs (p : Value × Nat) => cs.setIfInBounds (off + p.2) p.1) c := by
            intro a c
            rw [← Array.foldl_toList, Array.toList_zipIdx]
          have := setAll_rel off hcr 0 hc
          rw [← e, ← e] at this
          exact this

def zero (P : Program) (t : TypeId) : Option (List Value) := ((P.info? t).bind (·.zero)).bind fun v => bif noPtr 8 v then some v.cells.toList else none
theorem zero_spec {P : Program} {t : TypeId} {z : List Value} (h : zero P t = some z) : ∃ v, (∀ w, (zeroValue t).run P w = .ok v w) ∧ z = v.cells.toList ∧ noPtr 8 v = true := by
  unfold zero at h
  obtain ⟨v, hv, h⟩ := Option.bind_eq_some_iff.1 h
  obtain ⟨i, hi, hv⟩ := Option.bind_eq_some_iff.1 hv
  by_cases hn : noPtr 8 v = true
  · rw [hn, cond_true] at h
    exact ⟨v, fun w => by simp [zeroValue, typeInfo, hi, hv], (Option.some.inj h).symm, hn⟩
  · simp only [Bool.not_eq_true] at hn; rw [hn, cond_false] at h; simp at h
theorem zero_rel {r : Ren} {v : Value} (h : noPtr 8 v = true) : LRel r v.cells.toList v.cells.toList :=
  cells_rel (VRel.refl_of_noPtr r 8 v h) (by rintro k a b rfl; simp [noPtr, isAtom] at h)

def absBuild (P : Program) (t : TypeId) (parts : List (Nat × Value)) : Option Value :=
  match zero P t with
  | some z => bif parts.all (fun p => solid p.2) then
    match P.underlying t with
    | some (.struct fs) => bif fs.toList.all (fun f => (size P f.type).isSome) then (Instr.fill (fun i => (fs[i]?).map fun f => (f.offset, (size P f.type).getD 0)) z.toArray parts).map .agg else none
    | some (.array _ elem) => match size P elem with
      | some sz => (Instr.fill (fun i => some (i * sz, sz)) z.toArray parts).map .agg
      | none => none
    | _ => none
    else none
  | none => none

theorem mapM_places {P : Program} (w : World) : ∀ (l : List Field), (∀ f ∈ l, (size P f.type).isSome = true) → (l.mapM fun f => do pure (f.offset, ← sizeOf f.type) : Sem (List (Nat × Nat))).run P w = .ok (l.map fun f => (f.offset, (size P f.type).getD 0)) w
  | [], _ => by simp
  | f :: l, h => by
    obtain ⟨n, hn⟩ := Option.isSome_iff_exists.1 (h f (by simp))
    have ih := mapM_places w l (fun g hg => h g (by simp [hg]))
    simp only [List.mapM_cons, Sem.run_bind, run_size hn, Result.andThen_ok, Sem.run_pure, ih, List.map_cons, hn, Option.getD_some]


theorem mapM_placesA {P : Program} (w : World) (fs : Array Field) (h : fs.toList.all (fun f => (size P f.type).isSome) = true) :
    (fs.mapM fun f => do pure (f.offset, ← sizeOf f.type) : Sem (Array (Nat × Nat))).run P w = .ok (fs.map fun f => (f.offset, (size P f.type).getD 0)) w := by
  rw [Array.mapM_eq_mapM_toList]
  simp only [Sem.run_map, mapM_places w fs.toList (fun f hf => List.all_eq_true.1 h f hf), Result.andThen_ok]
  congr 1
  apply Array.ext'
  simp

theorem build_ok {P : Program} {r : Ren} {t : TypeId} {ps ps' : Array (Nat × Value)} {v : Value} (hp : PRel r ps.toList ps'.toList) (h : absBuild P t ps.toList = some v) (w : World) :
    ∃ v', (Instr.build t ps').run P w = .ok v' w ∧ VRel r v v' := by
  unfold absBuild at h
  split at h
  · rename_i z hz
    obtain ⟨zv, hzv, rfl, hzn⟩ := zero_spec hz
    by_cases hs : ps.toList.all (fun p => solid p.2) = true
    · rw [hs, cond_true] at h
      split at h
      · rename_i fs hu
        by_cases hall : fs.toList.all (fun f => (size P f.type).isSome) = true
        · rw [hall, cond_true] at h
          obtain ⟨d, hd, rfl⟩ := Option.map_eq_some_iff.1 h
          obtain ⟨d', hd', hr⟩ := fill_rel (r := r) (fun (i : Nat) => (fs[i]?).map fun (f : Field) => (f.offset, (size P f.type).getD 0)) hp hs (c := zv.cells.toList.toArray) (c' := zv.cells) (by simpa using zero_rel hzn) hd
          refine ⟨.agg d', ?_, ?_⟩
          · have e : (fun (i : Nat) => (fs.map fun (f : Field) => (f.offset, (size P f.type).getD 0))[i]?) = (fun (i : Nat) => (fs[i]?).map fun (f : Field) => (f.offset, (size P f.type).getD 0)) := by
              funext i; simp
            simp only [Instr.build, Sem.run_bind, hzv, Result.andThen_ok, run_underlying hu, mapM_placesA w fs hall, e, hd', Sem.run_pure]
          · have := LRel.arrays hr
            exact .agg _ _ this.1 this.2
        · simp only [Bool.not_eq_true] at hall; rw [hall, cond_false] at h; simp at h
      · rename_i n elem hu
        split at h
        · rename_i sz hsz
          obtain ⟨d, hd, rfl⟩ := Option.map_eq_some_iff.1 h
          obtain ⟨d', hd', hr⟩ := fill_rel (r := r) (fun i => some (i * sz, sz)) hp hs (c := zv.cells.toList.toArray) (c' := zv.cells) (by simpa using zero_rel hzn) hd
          refine ⟨.agg d', ?_, ?_⟩
          · simp only [Instr.build, Sem.run_bind, hzv, Result.andThen_ok, run_underlying hu, run_size hsz, hd', Sem.run_pure]
          · have := LRel.arrays hr
            exact .agg _ _ this.1 this.2
        · simp at h
      · simp at h
    · simp only [Bool.not_eq_true] at hs; rw [hs, cond_false] at h; simp at h
  · simp at h

/-! ### New blocks -/
theorem LRel.full {r : Ren} {l : List Value} {a : Array Value} (h : LRel r l a.toList) : l.length ≤ a.size ∧ LRel r l (a.toList.take l.length) := by
  have h1 : l.length = a.size := by simpa using h.1
  refine ⟨by omega, ?_⟩
  rw [h1, List.take_of_length_le (by simp)]
  exact h
theorem run_newRow {P : Program} (w : World) (e : TypeId) (cs : Array Value) : (newRow e cs).run P w = .ok ⟨w.heap.size, 0, none⟩ { w with heap := w.heap.push (.cells cs e) } := by
  simp [newRow, newObj, Sem.run]

theorem newRow_ok {P : Program} {r : Ren} {σ σ' : AHeap} {w : World} {e : TypeId} {cs : List Value} {cs' : Array Value} {n : Nat} (h : WRel r σ w) (hc : cs.length ≤ cs'.size) (hl : LRel r cs (cs'.toList.take cs.length))
    (ha : σ.alloc (.cells cs e) = some (n, σ')) :
    ∃ b r' w', (newRow e cs').run P w = .ok ⟨b, 0, none⟩ w' ∧ Step r σ w r' σ' w' ∧ r'.rel n b ∧ r'.bs b = cs'.size := by
  have hle : r.le (r.add n w.heap.size cs'.size) := ⟨fun _ _ hr => .inl hr, fun m b hr => by
    have := (h.lt m b hr).2
    simp only [Ren.add]; rw [if_neg (by omega)], rfl⟩
  obtain ⟨h1, h2⟩ := Step.alloc (o' := .cells cs' e) cs'.size h ha (.cells cs cs' e (0, 0) hc (.inr (by simp)) (by simp [Ren.add]) (hl.mono hle))
  exact ⟨w.heap.size, _, _, run_newRow w e cs', h1, h2, by simp [Ren.add]⟩

def absAlloc (P : Program) (e : TypeId) (σ : AHeap) : Option (Value × AHeap) :=
  match zero P e with
  | some z => match σ.alloc (.cells z e) with
    | some (n, σ') => some (.pointer (some ⟨n, 0, none⟩), σ')
    | none => none
  | none => none
theorem alloc_ok {P : Program} {r : Ren} {σ σ' : AHeap} {w : World} {e : TypeId} {v : Value} (h : WRel r σ w) (ha : absAlloc P e σ = some (v, σ')) :
    ∃ v' r' w', (Instr.alloc e true (.tuple #[])).run P w = .ok v' w' ∧ Step r σ w r' σ' w' ∧ VRel r' v v' := by
  unfold absAlloc at ha
  split at ha
  · rename_i z hz
    obtain ⟨zv, hzv, rfl, hzn⟩ := zero_spec hz
    split at ha
    · rename_i n σ1 hal
      simp only [Option.some.injEq, Prod.mk.injEq] at ha
      obtain ⟨rfl, rfl⟩ := ha
      obtain ⟨b, r', w', h1, h2, h3, _⟩ := newRow_ok (P := P) h (cs := zv.cells.toList) (cs' := zv.cells) (zero_rel (r := r) hzn).full.1 (zero_rel hzn).full.2 hal
      refine ⟨.pointer (some ⟨b, 0, none⟩), r', w', ?_, h2, .ptr _ _ _ _ h3⟩
      simp [Instr.alloc, hzv, newVar, h1]
    · simp at ha
  · simp at ha

def absBox (e : TypeId) (x : Value) (σ : AHeap) : Option (Value × AHeap) :=
  bif solid x then
    match σ.alloc (.cells x.cells.toList e) with
    | some (n, σ') => some (.pointer (some ⟨n, 0, none⟩), σ')
    | none => none
  else none
theorem box_ok {P : Program} {r : Ren} {σ σ' : AHeap} {w : World} {e : TypeId} {x x' v : Value} (h : WRel r σ w) (hx : VRel r x x') (ha : absBox e x σ = some (v, σ')) :
    ∃ v' r' w', (Instr.box e x').run P w = .ok v' w' ∧ Step r σ w r' σ' w' ∧ VRel r' v v' := by
  unfold absBox at ha
  by_cases hs : solid x = true
  · rw [hs, cond_true] at ha
    split at ha
    · rename_i n σ1 hal
      simp only [Option.some.injEq, Prod.mk.injEq] at ha
      obtain ⟨rfl, rfl⟩ := ha
      have hcr := cells_rel hx (by rintro k a b rfl; simp [solid] at hs)
      have hsz : x.cells.toList.length = x'.cells.size := by simpa using hcr.1
      obtain ⟨b, r', w', h1, h2, h3, _⟩ := newRow_ok (P := P) h (cs := x.cells.toList) (cs' := x'.cells) hcr.full.1 hcr.full.2 hal
      exact ⟨.pointer (some ⟨b, 0, none⟩), r', w', by simp [Instr.box, newVar, h1], h2, .ptr _ _ _ _ h3⟩
    · simp at ha
  · simp only [Bool.not_eq_true] at hs; rw [hs, cond_false] at ha; simp at ha

def rep : Nat → List Value → List Value
  | 0, _ => []
  | n + 1, l => l ++ rep n l
theorem rep_get (z : List Value) (hz : z.length ≠ 0) : ∀ (n i : Nat), i < n * z.length → (rep n z)[i]? = z[i % z.length]?
  | 0, i, h => by simp at h
  | n + 1, i, h => by
    simp only [rep]
    by_cases hi : i < z.length
    · rw [List.getElem?_append_left hi, Nat.mod_eq_of_lt hi]
    · rw [List.getElem?_append_right (by omega), rep_get z hz n (i - z.length) (by rw [Nat.succ_mul] at h; omega)]
      rw [Nat.mod_eq_sub_mod (by omega : i ≥ z.length)]
theorem rep_length (z : List Value) : ∀ n, (rep n z).length = n * z.length
  | 0 => by simp [rep]
  | n + 1 => by simp [rep, rep_length z n, Nat.succ_mul, Nat.add_comm]
theorem rep_rel {r : Ren} {z z' : List Value} (h : LRel r z z') : ∀ n, LRel r (rep n z) (rep n z')
  | 0 => .nil r
  | n + 1 => h.append (rep_rel h n)
theorem zeros_eq (z : Array Value) (n sz : Nat) (hz : z.size = sz) (h0 : n * sz ≠ 0) : (Array.range (n * sz)).map (fun i => z[i % z.size]!) = (rep n z.toList).toArray := by
  apply Array.ext'
  simp only [Array.toList_map, Array.toList_range]
  have hsz : z.toList.length ≠ 0 := by
    intro h; simp at h; rw [h] at hz; simp at hz; subst hz; simp at h0
  apply List.ext_getElem?
  intro i
  by_cases hi : i < n * sz
  · rw [rep_get z.toList hsz n i (by simpa [hz] using hi)]
    rw [List.getElem?_map, List.getElem?_range hi]
    have hzp : 0 < z.size := by
      rcases Nat.eq_zero_or_pos z.size with h | h
      · exact absurd (by simpa using h) hsz
      · exact h
    have hlt : i % z.size < z.size := Nat.mod_lt _ hzp
    simp [hlt]
  · have h1 : ((List.range (n * sz)).map (fun i => z[i % z.size]!)).length = n * sz := by simp
    have h2 : (rep n z.toList).length = n * sz := by rw [rep_length]; simp [hz]
    rw [List.getElem?_eq_none (by omega), List.getElem?_eq_none (by omega)]

def absBuildSlice (P : Program) (t : TypeId) (len : Nat) (parts : List (Nat × Value)) (σ : AHeap) : Option (Value × AHeap) :=
  match P.underlying t with
  | some (.slice elem) => match size P elem, zero P elem with
    | some sz, some z =>
      bif Nat.ble (len * sz) 16777216 && Nat.beq z.length sz && parts.all (fun p => solid p.2) && Nat.blt len UNK then
        match Instr.fill (fun i => some (i * sz, sz)) (rep len z).toArray parts with
        | some cs => match σ.alloc (.cells cs.toList elem) with
          | some (n, σ') => some (.slice (some ⟨n, 0, none⟩) len len, σ')
          | none => none
        | none => none
      else none
    | _, _ => none
  | _ => none
theorem buildSlice_ok {P : Program} {r : Ren} {σ σ' : AHeap} {w : World} {t : TypeId} {len : Nat} {ps ps' : Array (Nat × Value)} {v : Value} (h : WRel r σ w) (hp : PRel r ps.toList ps'.toList)
    (ha : absBuildSlice P t len ps.toList σ = some (v, σ')) : ∃ v' r' w', (Instr.buildSlice t len ps').run P w = .ok v' w' ∧ Step r σ w r' σ' w' ∧ VRel r' v v' := by
  unfold absBuildSlice at ha
  split at ha
  · rename_i elem hu
    split at ha
    · rename_i sz z hsz hz
      obtain ⟨zv, hzv, rfl, hzn⟩ := zero_spec hz
      by_cases hb : (Nat.ble (len * sz) 16777216 && Nat.beq zv.cells.toList.length sz && ps.toList.all (fun p => solid p.2) && Nat.blt len UNK) = true
      · rw [hb, cond_true] at ha
        simp only [Bool.and_eq_true, Nat.ble_eq, Nat.beq_eq, Nat.blt_eq] at hb
        obtain ⟨⟨⟨g1, g2⟩, g3⟩, g4⟩ := hb
        split at ha
        · rename_i cs hf
          split at ha
          · rename_i n σ1 hal
            simp only [Option.some.injEq, Prod.mk.injEq] at ha
            obtain ⟨rfl, rfl⟩ := ha
            obtain ⟨d', hd', hr⟩ := fill_rel (r := r) (fun i => some (i * sz, sz)) hp g3 (c := (rep len zv.cells.toList).toArray) (c' := (rep len zv.cells.toList).toArray) (by simpa using rep_rel (zero_rel hzn) len) hf
            have hsz' : cs.toList.length = d'.size := by simpa using hr.1
            obtain ⟨b, r', w', h1, h2, h3, _⟩ := newRow_ok (P := P) h (cs := cs.toList) (cs' := d') hr.full.1 hr.full.2 hal
            refine ⟨.slice (some ⟨b, 0, none⟩) len len, r', w', ?_, h2, .slice _ _ _ _ _ h3 g4⟩
            have hcells : (Array.range (len * sz)).map (fun i => (if len * sz = 0 then #[] else zv.cells)[i % (if len * sz = 0 then (#[] : Array Value) else zv.cells).size]!) = (rep len zv.cells.toList).toArray := by
              by_cases h0 : len * sz = 0
              · simp only [h0, if_true]
                apply Array.ext'
                have : (rep len zv.cells.toList).length = 0 := by rw [rep_length]; simp at g2; simp [g2, h0]
                simp [List.length_eq_zero_iff.1 this]
              · simp only [h0, if_false]
                exact zeros_eq zv.cells len sz (by simpa using g2) h0
            have hlim : ¬ len * sz > 2 ^ 24 := by omega
            simp only [Instr.buildSlice, Sem.run_bind, run_underlying hu, Result.andThen_ok, run_size hsz, hlim, if_false]
            by_cases h0 : len * sz = 0
            · simp only [h0, if_true] at hcells ⊢
              simp only [Sem.run_bind, Sem.run_pure, Result.andThen_ok, hcells, hd', h1]
            · simp only [h0, if_false] at hcells ⊢
              simp only [Sem.run_bind, Sem.run_pure, hzv, Result.andThen_ok, hcells, hd', h1]
          · simp at ha
        · simp at ha
      · simp only [Bool.not_eq_true] at hb; rw [hb, cond_false] at ha; simp at ha
    · simp at ha
  · simp at ha

end Go.Abs
