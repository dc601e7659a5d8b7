/- A2: the abstract heap's moves (a block more, a block written, a name given up) are steps of the relation; loads and stores. General over the program. -/
import Derived.Test.YtcadfopmadjanaaA1
namespace Go.Abs
set_option linter.unusedVariables false
set_option linter.unusedSimpArgs false

/-! ### The heap -/
section
variable (h : AHeap) (n m : Nat) (o : Option AObj)
theorem AHeap.get_put_same (hn : n ≤ MAXN) (hh : hidden h.hid n = false) : (h.put n o).get n = o := by
  simp only [AHeap.get, AHeap.put, hh, cond_false]
  exact Tree.get_set_same 64 _ _ _ (by unfold MAXN at hn; have : n + 1 < 2 ^ 64 := by omega
                                       exact this)
theorem AHeap.get_put_other (hne : m ≠ n) : (h.put n o).get m = h.get m := by
  simp only [AHeap.get, AHeap.put, Tree.get_set_other 64 _ _ _ _ hne]
theorem AHeap.hid_of_get {ob : AObj} (hg : h.get n = some ob) : hidden h.hid n = false := by
  cases hh : hidden h.hid n with
  | false => rfl
  | true => simp [AHeap.get, hh] at hg
theorem AHeap.get_ne_none {h : AHeap} {n : Nat} {ob : AObj} (hg : h.get n = some ob) : h.get n ≠ none := by rw [hg]; simp
end

theorem AHeap.alloc_spec {h h' : AHeap} {o : AObj} {n : Nat} (ha : h.alloc o = some (n, h')) :
    n = h.next ∧ h'.next = h.next + 1 ∧ h'.next ≤ MAXN + 1 ∧ h'.lim = h.lim ∧ h'.hid = h.hid ∧ h'.glob = h.glob ∧ h'.get n = some o ∧ (∀ m, m ≠ n → h'.get m = h.get m) ∧ ∀ m, m ≠ n → h'.t.get m = h.t.get m := by
  unfold AHeap.alloc at ha
  by_cases hb : (Nat.ble h.next MAXN && !hidden h.hid h.next) = true
  · rw [hb, cond_true] at ha
    simp only [Option.some.injEq, Prod.mk.injEq] at ha
    obtain ⟨rfl, rfl⟩ := ha
    simp only [Bool.and_eq_true, Bool.not_eq_true', Nat.ble_eq] at hb
    refine ⟨rfl, rfl, by simpa using hb.1, rfl, rfl, rfl, ?_, ?_, fun m hm => Tree.get_set_other 64 _ _ _ _ hm⟩
    · simp only [AHeap.get, hb.2, cond_false]
      exact Tree.get_set_same 64 _ _ _ (by have := hb.1; unfold MAXN at this; omega)
    · intro m hm
      simp only [AHeap.get, Tree.get_set_other 64 _ _ _ _ hm]
  · simp only [Bool.not_eq_true] at hb
    rw [hb, cond_false] at ha
    simp at ha

/-- The relation with one pair more. -/
def Ren.add (r : Ren) (n b size : Nat) : Ren where
  rel := fun m c => r.rel m c ∨ (m = n ∧ c = b)
  bs := fun c => if c = b then size else r.bs c
  ro := r.ro

theorem Step.alloc {r : Ren} {σ σ' : AHeap} {w : World} {n : Nat} {o : AObj} {o' : Obj} (size : Nat) (h : WRel r σ w) (ha : σ.alloc o = some (n, σ'))
    (ho : ORel (r.add n w.heap.size size) w.heap.size o o') :
    Step r σ w (r.add n w.heap.size size) σ' { w with heap := w.heap.push o' } ∧ (r.add n w.heap.size size).rel n w.heap.size := by
  obtain ⟨rfl, h1, h2, h3, h4, h5, h6, h7, h8t⟩ := AHeap.alloc_spec ha
  have hle : r.le (r.add σ.next w.heap.size size) := ⟨fun _ _ hr => .inl hr, fun m b hr => by
    have := (h.lt m b hr).2
    simp only [Ren.add]; rw [if_neg (by omega)], rfl⟩
  have hr : WRel (r.add σ.next w.heap.size size) σ' { w with heap := w.heap.push o' } := by
    refine ⟨h2, ?_, ?_, ?_, ?_, ?_, fun m hm => by rw [h8t m (by omega)]; exact h.top m (by omega), ?_, fun b hb => by have := h.rob b hb; simp only [Array.size_push]; omega⟩
    case refine_6 =>
      rintro m b (hm | ⟨rfl, rfl⟩) hl hro
      · exact h.wr m b hm (by omega) hro
      · have := h.rob _ hro; omega
    · rintro m b (hm | ⟨rfl, rfl⟩)
      · have := h.lt m b hm; simp only [Array.size_push]; omega
      · simp only [Array.size_push]; omega
    · rintro m b b' (hm | ⟨rfl, rfl⟩) (hm' | ⟨e1, rfl⟩)
      · exact h.fn m b b' hm hm'
      · have := (h.lt m b hm).1; omega
      · have := (h.lt _ b' hm').1; omega
      · rfl
    · rintro m k b hm hk (h8 | ⟨rfl, rfl⟩) (h9 | ⟨rfl, e2⟩)
      · have e1 := (h.lt m b h8).1
        have e2 := (h.lt k b h9).1
        exact h.inj m k b (by rw [← h7 m (by omega)]; exact hm) (by rw [← h7 k (by omega)]; exact hk) h8 h9
      · have e1 := (h.lt m b h8).2; omega
      · have e1 := (h.lt k _ h9).2; omega
      · exact .inl rfl
    · intro m ob hm
      by_cases hmn : m = σ.next
      · subst hmn
        rw [h6] at hm
        obtain rfl := Option.some.inj hm
        exact ⟨w.heap.size, o', .inr ⟨rfl, rfl⟩, by simp, ho⟩
      · rw [h7 m hmn] at hm
        obtain ⟨b, ob', hb, hc, hd⟩ := h.obj m ob hm
        have := (h.lt m b hb).2
        refine ⟨b, ob', .inl hb, ?_, hd.mono hle hb⟩
        simp only [Array.getElem?_push]; rw [if_neg (by omega)]; exact hc
    · intro g hg; exact .inl (h.glob g (by omega))
  refine ⟨⟨hle, ?_, hr, by simp, ?_, ?_, ?_, by omega, h3, h4, h5, rfl, rfl, rfl⟩, .inr ⟨rfl, rfl⟩⟩
  · rintro m b (hm | ⟨rfl, rfl⟩)
    · exact .inl hm
    · exact .inr ⟨Nat.le_refl _, .inl (Nat.le_refl _)⟩
  · intro b hb _
    simp only [Array.getElem?_push]; rw [if_neg (by omega)]
  · intro m hm hd; rw [h7 m (by omega)]; exact hd
  · intro m _ hm; rw [h7 m (by omega)]

theorem Step.put {r : Ren} {σ : AHeap} {w : World} {n b : Nat} {o ob : AObj} {o' : Obj} (h : WRel r σ w) (hg : σ.get n = some ob) (hn : r.rel n b) (hm : σ.may n = true)
    (ho : ORel r b o o') : Step r σ w r (σ.put n (some o)) { w with heap := w.heap.setIfInBounds b o' } := by
  have hlt := h.lt n b hn
  have hmay : σ.lim ≤ n := by simpa [AHeap.may] using hm
  have hsame : (σ.put n (some o)).get n = some o := AHeap.get_put_same σ n _ (by have := h.small; omega) (AHeap.hid_of_get σ n hg)
  have hr : WRel r (σ.put n (some o)) { w with heap := w.heap.setIfInBounds b o' } := by
    refine ⟨h.small, fun m c hm => by have := h.lt m c hm; simp only [Array.size_setIfInBounds]; exact this, h.fn, ?_, ?_, h.glob, fun m hm => by
      have hm' : σ.next ≤ m := hm
      have hne : m ≠ n := by rintro rfl; exact absurd hlt.1 (by omega)
      show (σ.t.set 64 n (some o)).get m = none
      rw [Tree.get_set_other 64 _ _ _ _ hne]; exact h.top m hm, h.wr, fun c hc => by have := h.rob c hc; simp only [Array.size_setIfInBounds]; exact this⟩
    · intro m k c hm hk h1 h2
      have e : ∀ j, (σ.put n (some o)).get j ≠ none → σ.get j ≠ none := by
        intro j hj
        by_cases hjn : j = n
        · subst hjn; rw [hg]; simp
        · rwa [AHeap.get_put_other σ n j _ hjn] at hj
      exact h.inj m k c (e m hm) (e k hk) h1 h2
    · intro m om hm
      by_cases hmn : m = n
      · subst hmn
        rw [hsame] at hm
        obtain rfl := Option.some.inj hm
        exact ⟨b, o', hn, by simp [Array.getElem?_setIfInBounds, hlt.2], ho⟩
      · rw [AHeap.get_put_other σ n m _ hmn] at hm
        obtain ⟨c, om', hc, hd, he⟩ := h.obj m om hm
        refine ⟨c, om', hc, ?_, he⟩
        have hcb : b ≠ c := by
          rintro rfl
          exact (h.inj m n b (by rw [hm]; simp) (by rw [hg]; simp) hc hn).elim hmn (h.wr n b hn hmay)
        simp only [Array.getElem?_setIfInBounds_ne hcb]; exact hd
  refine ⟨.refl r, fun _ _ h => .inl h, hr, by simp, ?_, ?_, ?_, Nat.le_refl _, rfl, rfl, rfl, rfl, rfl, rfl⟩
  · intro c hc hd
    have hcb : b ≠ c := by
      rintro rfl
      rcases hd n hn with h6 | h6
      · rw [hg] at h6; simp at h6
      · omega
    simp only [Array.getElem?_setIfInBounds_ne hcb]
  · intro m _ hd
    by_cases hmn : m = n
    · subst hmn; rw [hg] at hd; simp at hd
    · rw [AHeap.get_put_other σ n m _ hmn]; exact hd
  · intro m hl _
    exact AHeap.get_put_other σ n m _ (by omega)

/-- A name that is given up. -/
theorem Step.give {r : Ren} {σ : AHeap} {w : World} {n : Nat} {ob : AObj} (h : WRel r σ w) (hg : σ.get n = some ob) (hn : n < σ.next) (hm : σ.may n = true) : Step r σ w r (σ.put n none) w := by
  have hmay : σ.lim ≤ n := by simpa [AHeap.may] using hm
  have hsame : (σ.put n none).get n = none := AHeap.get_put_same σ n _ (by have := h.small; omega) (AHeap.hid_of_get σ n hg)
  have e : ∀ j ob, (σ.put n none).get j = some ob → σ.get j = some ob := by
    intro j ob hj
    by_cases hjn : j = n
    · subst hjn; rw [hsame] at hj; simp at hj
    · rwa [AHeap.get_put_other σ n j _ hjn] at hj
  have e' : ∀ j, (σ.put n none).get j ≠ none → σ.get j ≠ none := by
    intro j hj
    obtain ⟨ob, hob⟩ := Option.ne_none_iff_exists'.1 hj
    rw [e j ob hob]; simp
  refine ⟨.refl r, fun _ _ h => .inl h, ⟨h.small, h.lt, h.fn, fun m k c hm hk => h.inj m k c (e' m hm) (e' k hk), fun m om hm => h.obj m om (e m om hm), h.glob, fun m hm' => by
    have hne : m ≠ n := by rintro rfl; exact absurd hn (Nat.not_lt.2 hm')
    show (σ.t.set 64 n none).get m = none
    rw [Tree.get_set_other 64 _ _ _ _ hne]; exact h.top m hm', h.wr, h.rob⟩, Nat.le_refl _, fun _ _ _ => rfl, ?_, ?_, Nat.le_refl _, rfl, rfl, rfl, rfl, rfl, rfl⟩
  · intro m hm hd
    by_cases hmn : m = n
    · subst hmn; exact hsame
    · rw [AHeap.get_put_other σ n m _ hmn]; exact hd
  · intro m hl _
    exact AHeap.get_put_other σ n m _ (by omega)

/-! ### Types -/
def size (P : Program) (t : TypeId) : Option Nat := (P.info? t).map (·.size)
def isAggT (P : Program) (t : TypeId) : Bool := match P.underlying t with | some (.struct _) | some (.array ..) => true | _ => false

theorem run_size {P : Program} {t : TypeId} {n : Nat} (h : size P t = some n) (w : World) : (sizeOf t).run P w = .ok n w := by
  unfold size at h
  obtain ⟨i, hi, rfl⟩ := Option.map_eq_some_iff.1 h
  simp [sizeOf, typeInfo, hi]
theorem run_isAgg {P : Program} {t : TypeId} (h : (P.underlying t).isSome = true) (w : World) : (isAgg t).run P w = .ok (isAggT P t) w := by
  obtain ⟨d, hd⟩ := Option.isSome_iff_exists.1 h
  simp only [isAgg, Sem.run_bind, run_underlying hd, Result.andThen_ok, isAggT, hd]
  cases d <;> rfl

/-! ### Loads -/
def takeN : List Value → Nat → Option (List Value)
  | _, 0 => some []
  | [], _ + 1 => none
  | a :: l, n + 1 => (takeN l n).map (a :: ·)
theorem takeN_spec : ∀ {l : List Value} {n : Nat} {m : List Value}, takeN l n = some m → n ≤ l.length ∧ m = l.take n
  | l, 0, m, h => by cases l <;> simp [takeN] at h <;> simp [h]
  | [], n + 1, m, h => by simp [takeN] at h
  | a :: l, n + 1, m, h => by
    simp only [takeN, Option.map_eq_some_iff] at h
    obtain ⟨k, hk, rfl⟩ := h
    have := takeN_spec hk
    refine ⟨by simp; exact this.1, by simp [this.2]⟩

theorem cell_of {w : World} {b off : Nat} {c : Array Value} {e : TypeId} {fz : Nat × Nat} (h : w.heap[b]? = some (.cells c e fz)) : w.cell? ⟨b, off, none⟩ = c[off]? := by
  simp [World.cell?, h]
theorem frozen_of {w : World} {b off : Nat} {c : Array Value} {e : TypeId} {fz : Nat × Nat} (h : w.heap[b]? = some (.cells c e fz)) : w.frozen? ⟨b, off, none⟩ = (decide (fz.1 ≤ off) && decide (off < fz.2)) := by
  obtain ⟨lo, hi⟩ := fz
  simp [World.frozen?, h]
theorem add_none (b o n : Nat) : Addr.add ⟨b, o, none⟩ n = ⟨b, o + n, none⟩ := by
  unfold Addr.add; split
  · simp_all
  · rfl

theorem run_loadFrom {P : Program} {w : World} (b off : Nat) : ∀ (l : List Value) (i : Nat) (acc : Array Value), (∀ j (x : Value), l[j]? = some x → w.cell? ⟨b, off + (i + j), none⟩ = some x) →
    (loadCellsFrom ⟨b, off, none⟩ i l.length acc).run P w = .ok (acc ++ l.toArray) w
  | [], i, acc, _ => by simp [loadCellsFrom]
  | a :: l, i, acc, h => by
    have h0 := h 0 a rfl
    simp only [List.length_cons, loadCellsFrom, Sem.run_bind, add_none]
    have : (load ⟨b, off + i, none⟩).run P w = .ok a w := by
      simp only [load, Sem.run]; rw [show off + i = off + (i + 0) from rfl, h0]
    rw [this, Result.andThen_ok, run_loadFrom b off l (i + 1) _ (fun j x hx => by have := h (j + 1) x (by simpa using hx); rw [show i + 1 + j = i + (j + 1) by omega]; exact this)]
    simp
theorem run_loadCells {P : Program} {w : World} {b off : Nat} {c : Array Value} {e : TypeId} {fz : Nat × Nat} (hb : w.heap[b]? = some (.cells c e fz)) {n : Nat} (hn : off + n ≤ c.size) :
    (loadCells ⟨b, off, none⟩ n).run P w = .ok ((c.toList.drop off).take n).toArray w := by
  have hl : ((c.toList.drop off).take n).length = n := by simp; omega
  have := run_loadFrom (P := P) (w := w) b off ((c.toList.drop off).take n) 0 #[] (fun j x hx => by
    rw [cell_of hb, Nat.zero_add]
    rw [List.getElem?_take] at hx
    split at hx
    · rw [List.getElem?_drop, Array.getElem?_toList] at hx; exact hx
    · simp at hx)
  rw [hl] at this
  simpa [loadCells] using this

def loadAt (P : Program) (t : TypeId) (a : Addr) (h : AHeap) : Option Value :=
  match h.get a.block with
  | some (.cells c _) =>
    match P.underlying t with
    | none => none
    | some (.struct _) | some (.array ..) => (size P t).bind fun n => (takeN (c.drop a.off) n).map fun l => .agg l.toArray
    | _ => getL c a.off
  | _ => none

theorem load_ok {P : Program} {r : Ren} {σ : AHeap} {w : World} {t : TypeId} {n b off : Nat} {s : Option Nat} {v : Value} (h : WRel r σ w) (hr : r.rel n b) (hl : loadAt P t ⟨n, off, s⟩ σ = some v) :
    ∃ v', (loadVar t ⟨b, off, none⟩).run P w = .ok v' w ∧ VRel r v v' := by
  unfold loadAt at hl
  simp only at hl
  cases hg : σ.get n with
  | none => rw [hg] at hl; simp at hl
  | some ob =>
    rw [hg] at hl
    obtain ⟨b', o', hb', hw, ho⟩ := h.obj n ob hg
    obtain rfl := h.fn n b b' hr hb'
    cases ho with
    | map => simp at hl
    | iter => simp at hl
    | cells c c' e fz hlen hf hbs hcs =>
      simp only at hl
      have hagg : ∀ (_ : isAggT P t = true) (_ : (P.underlying t).isSome = true) (hl : ((size P t).bind fun n => (takeN (c.drop off) n).map fun l => Value.agg l.toArray) = some v),
          ∃ v', (loadVar t ⟨b, off, none⟩).run P w = .ok v' w ∧ VRel r v v' := by
        intro ha hu hl
        obtain ⟨k, hk, hl2⟩ := Option.bind_eq_some_iff.1 hl
        obtain ⟨l, hl3, hv⟩ := Option.map_eq_some_iff.1 hl2
        obtain ⟨h1, h1'⟩ := takeN_spec hl3
        subst h1' hv
        have hk' : k = 0 ∨ off + k ≤ c.length := by simp at h1; omega
        by_cases h0 : k = 0
        · subst h0
          refine ⟨.agg #[], ?_, VRel.agg' (by simpa using LRel.nil r)⟩
          simp only [loadVar, Sem.run_bind, run_isAgg hu, Result.andThen_ok, ha, if_true, run_size hk]
          simp [loadCells, loadCellsFrom]
        · have hk2 : off + k ≤ c.length := by omega
          refine ⟨.agg ((c'.toList.drop off).take k).toArray, ?_, VRel.agg' ?_⟩
          · simp only [loadVar, Sem.run_bind, run_isAgg hu, Result.andThen_ok, ha, if_true, run_size hk, run_loadCells hw (show off + k ≤ c'.size by omega), Sem.run_pure]
          · have := (hcs.drop off).take k
            rwa [List.drop_take, List.take_take, Nat.min_eq_left (by omega)] at this
      have hone : ∀ (_ : isAggT P t = false) (_ : (P.underlying t).isSome = true) (hl : getL c off = some v), ∃ v', (loadVar t ⟨b, off, none⟩).run P w = .ok v' w ∧ VRel r v v' := by
        intro ha hu hl
        rw [getL_eq] at hl
        obtain ⟨v', hv', hvr⟩ := hcs.get hl
        refine ⟨v', ?_, hvr⟩
        have hc : w.cell? ⟨b, off, none⟩ = some v' := by
          rw [cell_of hw]
          rw [List.getElem?_take] at hv'
          split at hv'
          · rwa [Array.getElem?_toList] at hv'
          · simp at hv'
        simp only [loadVar, Sem.run_bind, run_isAgg hu, Result.andThen_ok, ha, Bool.false_eq_true, if_false]
        simp [load, Sem.run, hc]
      cases hu : P.underlying t with
      | none => rw [hu] at hl; simp at hl
      | some d =>
        rw [hu] at hl
        cases d <;> first | exact hagg (by simp [isAggT, hu]) (by simp [hu]) hl | exact hone (by simp [isAggT, hu]) (by simp [hu]) hl

/-! ### Stores -/
/-- A value of one cell, known to be none of many. -/
def scalar : Value → Bool
  | .agg _ | .tuple _ | .complex .. => false
  | _ => true
def setsL : List Value → Nat → List Value → Option (List Value)
  | l, _, [] => some l
  | l, i, v :: vs => bif Nat.blt i l.length && scalar v then setsL (setL l i v) (i + 1) vs else none

def setMany (c : Array Value) (k : Nat) : List Value → Array Value
  | [] => c
  | v :: vs => setMany (c.setIfInBounds k v) (k + 1) vs
theorem setMany_size : ∀ (vs : List Value) (c : Array Value) (k : Nat), (setMany c k vs).size = c.size
  | [], c, k => rfl
  | v :: vs, c, k => by simp [setMany, setMany_size vs]

theorem scalar_rel {r : Ren} {v v' : Value} (h : VRel r v v') (hs : scalar v = true) : (∀ x, v' ≠ .agg x) ∧ (∀ x, v' ≠ .tuple x) := by
  cases h <;> first | (simp [scalar, poison] at hs; done) | (constructor <;> intro x hx <;> simp_all [isAgg, isAtom] <;> (cases hx; simp [isAtom] at *))

theorem run_store1 {P : Program} {w : World} {b off : Nat} {c : Array Value} {e : TypeId} {fz : Nat × Nat} (hb : w.heap[b]? = some (.cells c e fz)) (hf : fz.1 < fz.2 → c.size ≤ fz.1) {v : Value}
    (h1 : ∀ x, v ≠ .agg x) (h2 : ∀ x, v ≠ .tuple x) (ho : off < c.size) :
    (store ⟨b, off, none⟩ v).run P w = .ok () { w with heap := w.heap.setIfInBounds b (.cells (c.setIfInBounds off v) e fz) } := by
  have hc : w.cell? ⟨b, off, none⟩ = some c[off] := by rw [cell_of hb]; exact Array.getElem?_eq_getElem ho
  have hfz : w.frozen? ⟨b, off, none⟩ = false := by
    rw [frozen_of hb]
    by_cases h : fz.1 < fz.2
    · have := hf h; simp; omega
    · simp; omega
  have hset : w.setCell ⟨b, off, none⟩ v = { w with heap := w.heap.setIfInBounds b (.cells (c.setIfInBounds off v) e fz) } := by
    unfold World.setCell
    congr 1
    apply Array.ext_getElem?
    intro i
    rw [Array.getElem?_modify, Array.getElem?_setIfInBounds]
    have hlt : b < w.heap.size := by
      by_cases hlt : b < w.heap.size
      · exact hlt
      · rw [Array.getElem?_eq_none (by omega)] at hb; simp at hb
    by_cases hi : b = i
    · subst hi; rw [hb]; simp [hlt]
    · simp [hi]
  unfold store
  cases v <;> first | exact absurd rfl (h1 _) | exact absurd rfl (h2 _) | simp [Sem.run, hc, hfz, hset]

theorem run_storeCells {P : Program} {b off : Nat} {e : TypeId} {fz : Nat × Nat} : ∀ (vs : List Value) (i : Nat) (w : World) (c : Array Value), w.heap[b]? = some (.cells c e fz) → (fz.1 < fz.2 → c.size ≤ fz.1) →
    (∀ v ∈ vs, (∀ x, v ≠ .agg x) ∧ (∀ x, v ≠ .tuple x)) → off + i + vs.length ≤ c.size →
    (storeCells ⟨b, off, none⟩ vs i).run P w = .ok () (if vs = [] then w else { w with heap := w.heap.setIfInBounds b (.cells (setMany c (off + i) vs) e fz) })
  | [], i, w, c, _, _, _, _ => by simp [storeCells]
  | v :: vs, i, w, c, hb, hf, hv, hn => by
    simp only [List.length_cons] at hn
    have h1 := hv v (by simp)
    have hlt : b < w.heap.size := by
      by_cases hlt : b < w.heap.size
      · exact hlt
      · rw [Array.getElem?_eq_none (by omega)] at hb; simp at hb
    simp only [storeCells, Sem.run_bind, add_none]
    rw [run_store1 hb hf h1.1 h1.2 (by omega), Result.andThen_ok]
    have hb' : ({ w with heap := w.heap.setIfInBounds b (.cells (c.setIfInBounds (off + i) v) e fz) } : World).heap[b]? = some (.cells (c.setIfInBounds (off + i) v) e fz) := by
      simp [Array.getElem?_setIfInBounds, hlt]
    rw [run_storeCells vs (i + 1) _ _ hb' (by simpa using hf) (fun x hx => hv x (by simp [hx])) (by simp; omega)]
    simp only [List.cons_ne_nil, if_false, setMany]
    by_cases hvs : vs = []
    · subst hvs; simp [setMany]
    · simp only [hvs, if_false]
      rw [show off + (i + 1) = off + i + 1 by omega]
      simp

theorem setsL_spec {r : Ren} : ∀ {vs : List Value} {l m : List Value} {i : Nat} {vs' : List Value} {c : Array Value}, setsL l i vs = some m → LRel r vs vs' → l.length ≤ c.size → LRel r l (c.toList.take l.length) →
    (vs = [] ∨ i + vs.length ≤ l.length) ∧ m.length = l.length ∧ LRel r m ((setMany c i vs').toList.take l.length) ∧ (∀ v ∈ vs', (∀ x, v ≠ .agg x) ∧ (∀ x, v ≠ .tuple x))
  | [], l, m, i, vs', c, h, hv, hl, hr => by
    obtain rfl := hv.nil_left
    simp only [setsL, Option.some.injEq] at h
    subst h
    exact ⟨.inl rfl, rfl, hr, by simp⟩
  | v :: vs, l, m, i, vs', c, h, hv, hl, hr => by
    obtain ⟨v', ws, rfl, h1, h2⟩ := hv.cons_left
    simp only [setsL] at h
    by_cases hc : (Nat.blt i l.length && scalar v) = true
    · rw [hc, cond_true, setL_eq] at h
      simp only [Bool.and_eq_true, Nat.blt_eq] at hc
      have hstep : LRel r (l.set i v) ((c.setIfInBounds i v').toList.take (l.set i v).length) := by
        have := hr.set i h1
        simp only [List.length_set, Array.toList_setIfInBounds]
        rw [List.take_set]; exact this
      obtain ⟨g1, g2, g3, g4⟩ := setsL_spec h h2 (by simpa using hl) hstep
      refine ⟨.inr ?_, by simpa using g2, by simpa [setMany] using g3, ?_⟩
      · rcases g1 with rfl | g1
        · simp; omega
        · simp only [List.length_set] at g1; simp; omega
      · intro x hx
        rcases List.mem_cons.1 hx with rfl | hx
        · exact scalar_rel h1 hc.2
        · exact g4 x hx
    · simp only [Bool.not_eq_true] at hc
      rw [hc, cond_false] at h; simp at h

def storeAt (P : Program) (t : TypeId) (a : Addr) (v : Value) (h : AHeap) : Option AHeap :=
  match h.get a.block with
  | some (.cells c e) => match size P t with
    | some n =>
      let cs := v.cells.toList
      bif Nat.beq cs.length n && h.may a.block then (setsL c a.off cs).map fun c => h.put a.block (some (.cells c e)) else none
    | none => none
  | _ => none

theorem cells_rel {r : Ren} {v v' : Value} (h : VRel r v v') (hp : ∀ k a b, v ≠ .complex k a b) : LRel r v.cells.toList v'.cells.toList := by
  cases v with
  | agg as =>
    obtain ⟨bs, rfl, hl⟩ := h.agg_inv
    simpa [Value.cells] using hl
  | complex k a b => exact absurd rfl (hp _ _ _)
  | _ =>
    cases h <;> simpa [Value.cells] using LRel.cons (by first | assumption | (constructor <;> assumption)) (LRel.nil r)


theorem store_ok {P : Program} {r : Ren} {σ σ' : AHeap} {w : World} {t : TypeId} {n b off : Nat} {s : Option Nat} {v v' : Value} (h : WRel r σ w) (hr : r.rel n b) (hv : VRel r v v')
    (hs : storeAt P t ⟨n, off, s⟩ v σ = some σ') : ∃ w', (storeVar t ⟨b, off, none⟩ v').run P w = .ok () w' ∧ Step r σ w r σ' w' := by
  unfold storeAt at hs
  simp only at hs
  cases hg : σ.get n with
  | none => rw [hg] at hs; simp at hs
  | some ob =>
    rw [hg] at hs
    obtain ⟨b', o', hb', hw, ho⟩ := h.obj n ob hg
    obtain rfl := h.fn n b b' hr hb'
    cases ho with
    | map => simp at hs
    | iter => simp at hs
    | cells c c' e fz hlen hf0 hbs hcs =>
      simp only at hs
      cases hz : size P t with
      | none => rw [hz] at hs; simp at hs
      | some k =>
        rw [hz] at hs
        simp only at hs
        by_cases hc : (Nat.beq v.cells.toList.length k && σ.may n) = true
        · rw [hc, cond_true] at hs
          simp only [Bool.and_eq_true, Nat.beq_eq] at hc
          have hf := hf0.resolve_left (h.wr n b hr (by simpa [AHeap.may] using hc.2))
          obtain ⟨m, hm, rfl⟩ := Option.map_eq_some_iff.1 hs
          have hp : ∀ k a b, v ≠ .complex k a b := by
            rintro k' a b rfl
            simp only [Value.cells] at hm
            simp [setsL, scalar] at hm
          have hcr := cells_rel hv hp
          obtain ⟨g1, g2, g3, g4⟩ := setsL_spec hm hcr hlen hcs
          have hsz : v'.cells.size = k := by have := hcr.1; simp at this; have h2 := hc.1; simp at h2; omega
          have hrun : (storeVar t ⟨b, off, none⟩ v').run P w = (storeCells ⟨b, off, none⟩ v'.cells.toList 0).run P w := by
            simp [storeVar, run_size hz, hsz]
          rw [hrun]
          by_cases hnil : v'.cells.toList = []
          · have hvn : v.cells.toList = [] := by have := hcr.1; rw [hnil] at this; simpa using this
            rw [hvn] at hm
            simp only [setsL, Option.some.injEq] at hm
            subst hm
            rw [hnil]
            refine ⟨w, by simp [storeCells], ?_⟩
            have := Step.put h hg hr hc.2 (o := .cells c e) (o' := .cells c' e fz) (.cells c c' e fz hlen hf0 hbs hcs)
            have hw2 : ({ w with heap := w.heap.setIfInBounds b (.cells c' e fz) } : World) = w := by
              have : w.heap.setIfInBounds b (.cells c' e fz) = w.heap := by
                apply Array.ext_getElem?
                intro i
                rw [Array.getElem?_setIfInBounds]
                by_cases hi : b = i
                · subst hi; rw [hw]; simp [(h.lt n b hr).2]
                · simp [hi]
              rw [this]
            rwa [hw2] at this
          · have hle : off + 0 + v'.cells.toList.length ≤ c'.size := by
              have hl := hcr.1
              rcases g1 with g1 | g1
              · exact absurd (by have := hcr.1; rw [g1] at this; simpa using this.symm) hnil
              · omega
            rw [run_storeCells v'.cells.toList 0 w c' hw hf g4 hle, if_neg hnil, Nat.add_zero]
            refine ⟨_, rfl, Step.put h hg hr hc.2 (.cells m _ e fz (by rw [setMany_size]; omega) (.inr (by rw [setMany_size]; exact hf)) (by rw [setMany_size]; exact hbs) ?_)⟩
            rw [g2]; exact g3
        · simp only [Bool.not_eq_true] at hc
          rw [hc, cond_false] at hs; simp at hs

end Go.Abs
