/- A6: more operations of the abstract machine: make, append, copy, strings and bytes. General over the program. -/
import Derived.Test.YtcadfopmadjanaaA5
namespace Go.Abs
set_option linter.unusedVariables false
set_option linter.unusedSimpArgs false

def bytesOf (P : Program) (t : TypeId) : Option Nat := (P.info? t).map (·.bytes)
theorem run_bytes {P : Program} {t : TypeId} {n : Nat} (h : bytesOf P t = some n) (w : World) : ∃ i, (typeInfo t).run P w = .ok i w ∧ i.bytes = n := by
  unfold bytesOf at h
  obtain ⟨i, hi, rfl⟩ := Option.map_eq_some_iff.1 h
  exact ⟨i, by simp [typeInfo, hi], rfl⟩
theorem wrap_small (n : Nat) (h : n < 2 ^ 62) : IntKind.i64.wrap (n : Int) = n := by
  rw [show IntKind.i64.wrap (n : Int) = _ from rfl]
  simp [IntKind.wrap, IntKind.bits, IntKind.signed]
  omega
theorem run_askRoom {P : Program} (n : Nat) (w : World) : (askRoom n).run P w = .ok () w := by
  unfold askRoom
  split <;> simp [mark, Sem.run]

/-! ### make -/
def absMakeSlice (P : Program) (t : TypeId) (l c : Value) (σ : AHeap) : Option (Value × AHeap) :=
  match P.underlying t, l, c with
  | some (.slice elem), .int _ (.ofNat l), .int _ (.ofNat c) => match size P elem, zero P elem, bytesOf P elem with
    | some sz, some z, some by_ =>
      bif Nat.ble l c && Nat.ble c 1099511627776 && Nat.ble (by_ * c) 1099511627776 && Nat.beq z.length sz then
        match σ.alloc (.cells (rep c z) elem) with
        | some (n, σ') => some (.slice (some ⟨n, 0, none⟩) l c, σ')
        | none => none
      else none
    | _, _, _ => none
  | _, _, _ => none
theorem makeSlice_ok {P : Program} {r : Ren} {σ σ' : AHeap} {w : World} {t : TypeId} {l l' c c' v : Value} (h : WRel r σ w) (hl : VRel r l l') (hc : VRel r c c')
    (ha : absMakeSlice P t l c σ = some (v, σ')) : ∃ v' r' w', (Instr.makeSlice t l' c').run P w = .ok v' w' ∧ Step r σ w r' σ' w' ∧ VRel r' v v' := by
  unfold absMakeSlice at ha
  split at ha
  · rename_i elem k1 l k2 c hu
    obtain rfl := hl.int_inv
    obtain rfl := hc.int_inv
    split at ha
    · rename_i sz z by_ hsz hz hby
      obtain ⟨zv, hzv, rfl, hzn⟩ := zero_spec hz
      obtain ⟨i, hi, hib⟩ := run_bytes hby w
      by_cases hb : (Nat.ble l c && Nat.ble c 1099511627776 && Nat.ble (by_ * c) 1099511627776 && Nat.beq zv.cells.toList.length sz) = true
      · rw [hb, cond_true] at ha
        simp only [Bool.and_eq_true, Nat.ble_eq, Nat.beq_eq] at hb
        obtain ⟨⟨⟨g1, g2⟩, g3⟩, g4⟩ := hb
        split at ha
        · rename_i n σ1 hal
          simp only [Option.some.injEq, Prod.mk.injEq] at ha
          obtain ⟨rfl, rfl⟩ := ha
          have hrr : LRel r (rep c zv.cells.toList) (rep c zv.cells.toList).toArray.toList := by simpa using rep_rel (zero_rel hzn) c
          obtain ⟨b, r', w', h1, h2, h3, _⟩ := newRow_ok (P := P) h (cs := rep c zv.cells.toList) (cs' := (rep c zv.cells.toList).toArray) hrr.full.1 hrr.full.2 hal
          refine ⟨.slice (some ⟨b, 0, none⟩) l c, r', w', ?_, h2, .slice _ _ _ _ _ h3 (by have : (1099511627776 : Nat) < UNK := by decide
                                                                                          omega)⟩
          have hcells : (Array.range (c * sz)).map (fun i => (if c * sz = 0 then #[] else zv.cells)[i % (if c * sz = 0 then (#[] : Array Value) else zv.cells).size]!) = (rep c zv.cells.toList).toArray := by
            by_cases h0 : c * sz = 0
            · simp only [h0, if_true]
              apply Array.ext'
              have : (rep c zv.cells.toList).length = 0 := by rw [rep_length]; simp at g4; simp [g4, h0]
              simp [List.length_eq_zero_iff.1 this]
            · simp only [h0, if_false]
              exact zeros_eq zv.cells c sz (by simpa using g4) h0
          have w1 : IntKind.i64.wrap (Int.ofNat l) = (l : Int) := wrap_small l (by omega)
          have w2 : IntKind.i64.wrap (Int.ofNat c) = (c : Int) := wrap_small c (by omega)
          have hm : ((i.bytes : Int) * (c : Int)) = ((by_ * c : Nat) : Int) := by rw [hib]; simp
          have c1 : ¬ ((c : Int) < 0) := by omega
          have c2 : ¬ ((i.bytes : Int) * (c : Int) > 2 ^ 48) := by rw [hm]; omega
          have c3 : ¬ ((l : Int) < 0) := by omega
          have c4 : ¬ ((l : Int) > (c : Int)) := by omega
          simp only [Instr.makeSlice, Sem.run_bind, run_underlying hu, Result.andThen_ok, asInt, asIntOf, Sem.run_pure, hi, w1, w2]
          rw [if_neg (by simp [c1, c2, c3, c4]; omega)]
          simp only [Sem.run_bind, run_askRoom, Result.andThen_ok, run_size hsz, Int.toNat_natCast]
          by_cases h0 : c * sz = 0
          · simp only [h0, if_true] at hcells ⊢
            simp only [Sem.run_bind, Sem.run_pure, Result.andThen_ok, hcells, h1]
          · simp only [h0, if_false] at hcells ⊢
            simp only [Sem.run_bind, Sem.run_pure, hzv, Result.andThen_ok, hcells, h1]
        · simp at ha
      · simp only [Bool.not_eq_true] at hb; rw [hb, cond_false] at ha; simp at ha
    · simp at ha
  · simp at ha

/-! ### What append and copy take -/
def strCells (s : ByteArray) : List Value := s.data.toList.map fun b => .int .u8 b.toNat
def absCells (P : Program) (elem : TypeId) (x : Value) (σ : AHeap) : Option (List Value × Nat) :=
  match x with
  | .slice none 0 _ => some ([], 0)
  | .slice (some a) n cap => bif Nat.beq n 0 && Nat.beq cap UNK3 then some ([], 0) else match σ.get a.block, size P elem with
    | some (.cells c _), some s => (takeN (c.drop a.off) (n * s)).map fun l => (l, n)
    | _, _ => none
  | .string s => match size P elem with
    | some 1 => some (strCells s, s.size)
    | _ => none
  | _ => none
theorem absCells_ok {P : Program} {r : Ren} {σ : AHeap} {w : World} {elem : TypeId} {x x' : Value} {l : List Value} {n s : Nat} (h : WRel r σ w) (hx : VRel r x x') (hs : size P elem = some s) (ha : absCells P elem x σ = some (l, n)) :
    (Builtin.lenOf x').run P w = .ok n w ∧ l.length = n * s ∧ ∃ l' : List Value, LRel r l l' ∧ ∀ d k, k ≤ n → (Builtin.firstCells s k x').run P { w with drawn := d } = .ok (l'.take (k * s)).toArray { w with drawn := d } := by
  unfold absCells at ha
  split at ha
  · simp only [Option.some.injEq, Prod.mk.injEq] at ha
    obtain ⟨rfl, rfl⟩ := ha
    obtain rfl := hx.nilslice_inv
    exact ⟨by simp [Builtin.lenOf], by simp, [], .nil r, fun d k hk => by simp [Builtin.firstCells]⟩
  · rename_i a n' cap
    by_cases hZ : (Nat.beq n' 0 && Nat.beq cap UNK3) = true
    · rw [hZ, cond_true] at ha
      simp only [Option.some.injEq, Prod.mk.injEq] at ha
      obtain ⟨rfl, rfl⟩ := ha
      simp only [Bool.and_eq_true, Nat.beq_eq] at hZ
      obtain ⟨rfl, _⟩ := hZ
      obtain ⟨s, c', rfl⟩ := hx.slice_shape
      exact ⟨by simp [Builtin.lenOf], by simp, [], .nil r, fun d k hk => by
        obtain rfl : k = 0 := by omega
        cases s <;> simp [Builtin.firstCells, loadCells, loadCellsFrom]⟩
    simp only [Bool.not_eq_true] at hZ
    rw [hZ, cond_false] at ha
    obtain ⟨b, o', c', rfl, hsp, hr, hc⟩ := hx.slice_inv (by rintro ⟨rfl, rfl⟩; simp [beq_of] at hZ)
    split at ha
    · rename_i c e s' hg hs'
      rw [hs] at hs'
      obtain rfl := Option.some.inj hs'
      obtain ⟨l0, hl0, heq⟩ := Option.map_eq_some_iff.1 ha
      simp only [Prod.mk.injEq] at heq
      obtain ⟨rfl, rfl⟩ := heq
      obtain ⟨g1, rfl⟩ := takeN_spec hl0
      obtain ⟨b', ob, hb', hw, ho⟩ := h.obj _ _ hg
      obtain rfl := h.fn _ _ _ hr hb'
      cases ho with
      | cells c c' e fz hlen hf hbs hcs =>
        simp only [List.length_drop] at g1
        refine ⟨by simp [Builtin.lenOf], by simp; omega, ((c'.toList.take c.length).drop a.off).take (n' * s), (hcs.drop _).take _, ?_⟩
        intro d k hk
        have hw' : ({ w with drawn := d } : World).heap[b]? = some (.cells c' e fz) := hw
        have hks : k * s ≤ n' * s := Nat.mul_le_mul_right s hk
        by_cases h0 : n' * s = 0
        · have : k * s = 0 := by omega
          simp [Builtin.firstCells, this, loadCells, loadCellsFrom]
        · have hoff : o' = a.off := by
            rcases hc with h1 | h1 | ⟨_, _, h1, _⟩
            · exact h1.1
            · rw [h1.1] at h0; simp at h0
            · exact h1
          subst hoff
          have hle : a.off + k * s ≤ c'.size := by omega
          simp only [Builtin.firstCells, run_loadCells hw' hle]
          congr 2
          rw [List.take_take, Nat.min_eq_left hks, List.drop_take, List.take_take, Nat.min_eq_left (by omega)]
    · simp at ha
  · rename_i st
    obtain rfl := hx.string_inv
    split at ha
    · rename_i hs'
      rw [hs] at hs'
      obtain rfl := Option.some.inj hs'
      simp only [Option.some.injEq, Prod.mk.injEq] at ha
      obtain ⟨rfl, rfl⟩ := ha
      refine ⟨by simp only [Builtin.lenOf, Sem.run_pure], by simp only [strCells, List.length_map, Nat.mul_one, ByteArray.size, Array.length_toList], strCells st, ?_, ?_⟩
      · refine ⟨rfl, fun i a b ha hb => ?_⟩
        rw [ha] at hb
        obtain rfl := Option.some.inj hb
        unfold strCells at ha
        rw [List.getElem?_map] at ha
        obtain ⟨x, _, rfl⟩ := Option.map_eq_some_iff.1 ha
        exact .atom _ rfl
      · intro d k hk
        simp only [Builtin.firstCells, Sem.run_pure, Nat.mul_one]
        congr 1
        apply Array.ext'
        simp [strCells, ByteArray.data_extract, List.map_take]
    · simp at ha
  · simp at ha

theorem setMany_list : ∀ (vs : List Value) (c : Array Value) (k : Nat), k + vs.length ≤ c.size → (setMany c k vs).toList = c.toList.take k ++ vs ++ c.toList.drop (k + vs.length)
  | [], c, k, h => by simp [setMany]
  | v :: vs, c, k, h => by
    simp only [List.length_cons] at h
    rw [setMany, setMany_list vs _ (k + 1) (by simp; omega)]
    simp only [Array.toList_setIfInBounds, List.length_cons]
    have hk : k < c.toList.length := by simp; omega
    have e1 : (c.toList.set k v).take (k + 1) = c.toList.take k ++ [v] := by
      rw [List.take_add_one, List.take_set_of_le (Nat.le_refl k), List.getElem?_set_self hk]
      rfl
    have e2 : (c.toList.set k v).drop (k + 1 + vs.length) = c.toList.drop (k + (vs.length + 1)) := by
      rw [List.drop_set_of_lt (by omega), show k + 1 + vs.length = k + (vs.length + 1) by omega]
    rw [e1, e2]
    simp


/-! ### append -/
theorem growBy_le (n : Nat) : ∀ (k c : Nat), c < 2 * n + 192 → Builtin.growBy n k c ≤ 2 * n + 192
  | 0, c, h => by simp [Builtin.growBy]; omega
  | k + 1, c, h => by
    simp only [Builtin.growBy]
    split
    · omega
    · exact growBy_le n k _ (by omega)
theorem nextcap_le (n c : Nat) (h : c < n) : Builtin.nextslicecap n c ≤ 2 * n + 192 := by
  unfold Builtin.nextslicecap
  split
  · omega
  · split
    · omega
    · exact growBy_le n 4 c (by omega)

theorem run_choose_cap {P : Program} (w : World) (need old : Nat) (e : TypeId) : ∃ c, need ≤ c ∧ (choose (.appendCap need old e)).run P w = .ok c { w with drawn := w.drawn + 1 } :=
  ⟨(Question.appendCap need old e).cut (w.tape w.drawn (.appendCap need old e)), Nat.le_add_right _ _, by simp only [choose, Sem.run, Question.forced, Bool.false_eq_true, if_false]⟩

/-- What the model's append needs, told once. -/
structure AppFacts (P : Program) (sT xT elem : TypeId) (sz by_ : Nat) (zv : Value) : Prop where
  hs : P.underlying sT = some (.slice elem)
  hx : ∃ d, P.underlying xT = some d ∧ (∀ k, d ≠ .int k)
  hz : size P elem = some sz
  hb : bytesOf P elem = some by_
  hzv : ∀ w, (zeroValue elem).run P w = .ok zv w

theorem not_int {d : TypeDesc} (h : ∀ k, d ≠ .int k) : (match d with | .int _ => true | _ => false) = false := by
  cases d <;> first | rfl | exact absurd rfl (h _)

theorem append_stay {P : Program} {sT xT elem ty : TypeId} {sz by_ : Nat} {zv : Value} (F : AppFacts P sT xT elem sz by_ zv) {w w' : World} {base : Option Addr} {sLen sCap n : Nat} {x : Value} {new : Array Value}
    (hn : (Builtin.lenOf x).run P w = .ok n w) (hc : (Builtin.firstCells sz n x).run P w = .ok new w) (hle : sLen + n ≤ sCap)
    (hst : (match base with | some a => storeCells (a.add (sLen * sz)) new.toList | none => pure () : Sem Unit).run P w = .ok () w') :
    (Builtin.append_ #[sT, xT] ty #[.slice base sLen sCap, x]).run P w = .ok (.slice base (sLen + n) sCap) w' := by
  obtain ⟨d, hd, hdi⟩ := F.hx
  have hni := not_int hdi
  have hzero : ((do pure ((← underlying xT) matches .int _)) : Sem Bool).run P w = .ok false w := by
    simp only [Sem.run_bind, run_underlying hd, Result.andThen_ok, Sem.run_pure, hni]
  simp only [Builtin.append_, List.getElem?_toArray, List.getElem?_cons_zero, List.getElem?_cons_succ, Sem.run_bind, run_underlying F.hs, Result.andThen_ok, run_size F.hz]
  simp only [run_underlying hd, Sem.run_bind, Result.andThen_ok, Sem.run_pure, hni, Bool.false_eq_true, if_false, hn, hle, if_true, Bool.not_false, hc]
  cases base with
  | none => simp at hst; subst hst; simp
  | some a => simp only at hst; simp [hst]

theorem append_grow {P : Program} {sT xT elem ty : TypeId} {sz by_ : Nat} {zv : Value} (F : AppFacts P sT xT elem sz by_ zv) {w : World} {base : Option Addr} {sLen sCap n : Nat} {x : Value} {old new : Array Value}
    (hn : (Builtin.lenOf x).run P w = .ok n w) (hgt : ¬ sLen + n ≤ sCap) (hsmall : (2 * (sLen + n) + 192) * by_ ≤ 2 ^ 47) (hint : sLen + n ≤ 2 ^ 60) (hzs : zv.cells.size = sz)
    (hc : ∀ d, (Builtin.firstCells sz n x).run P { w with drawn := d } = .ok new { w with drawn := d }) (ho : ∀ d, (Builtin.firstCells sz sLen (.slice base sLen sCap)).run P { w with drawn := d } = .ok old { w with drawn := d }) :
    ∃ c, sLen + n ≤ c ∧ ∃ rest : Array Value, rest.size = (c - (sLen + n)) * sz ∧
      (Builtin.append_ #[sT, xT] ty #[.slice base sLen sCap, x]).run P w = .ok (.slice (some ⟨w.heap.size, 0, none⟩) (sLen + n) c) { w with drawn := w.drawn + 1, heap := w.heap.push (.cells (old ++ new ++ rest) elem) } := by
  obtain ⟨d, hd, hdi⟩ := F.hx
  have hni := not_int hdi
  obtain ⟨c, hcn, hch⟩ := run_choose_cap (P := P) w (sLen + n) sCap elem
  refine ⟨c, hcn, Builtin.zeroCells zv.cells (c - (sLen + n)), by simp [Builtin.zeroCells, hzs], ?_⟩
  obtain ⟨i, hi, hib⟩ := run_bytes F.hb w
  have hi' : (typeInfo elem).run P { w with drawn := w.drawn + 1 } = .ok i { w with drawn := w.drawn + 1 } := by
    unfold typeInfo at hi ⊢
    simp only [program, Sem.run_bind] at hi ⊢
    cases hp : P.info? elem with
    | none => simp [Sem.run, hp, stuck] at hi
    | some j => simp [Sem.run, hp] at hi ⊢; exact hi
  have hmax : ¬ ((sLen + n : Nat) : Int) > IntKind.i64.max := by rw [IntKind.max_i64]; omega
  have hnext : ¬ Builtin.nextslicecap (sLen + n) sCap * i.bytes > 2 ^ 48 := by
    have h1 := nextcap_le (sLen + n) sCap (by omega)
    have h2 : Builtin.nextslicecap (sLen + n) sCap * i.bytes ≤ (2 * (sLen + n) + 192) * i.bytes := Nat.mul_le_mul_right _ h1
    rw [hib] at h2 ⊢
    omega
  simp only [Builtin.append_, List.getElem?_toArray, List.getElem?_cons_zero, List.getElem?_cons_succ, Sem.run_bind, run_underlying F.hs, Result.andThen_ok, run_size F.hz]
  simp only [run_underlying hd, Sem.run_bind, Result.andThen_ok, Sem.run_pure, hni, Bool.false_eq_true, if_false, hn, hgt, hi, hmax, hnext, false_and, and_false, hch, hi', run_askRoom, Bool.not_false, if_true, hc, ho, F.hzv, run_newRow]


def isIntT : TypeDesc → Bool
  | .int _ => true
  | _ => false
/-- Append to what lies in an abstract block. -/
def absApp (σ : AHeap) (elem sz n : Nat) (new : List Value) (base : Option Addr) (sLen sCap : Nat) (old : Option (List Value × Nat)) : Option (Value × AHeap) :=
  bif Nat.ble UNK sCap then
    match base with
    | some a => match σ.get a.block with
      | some (.cells c e) =>
        bif Nat.beq sCap (UNK + sz) && Nat.beq a.off 0 && Nat.beq c.length (sLen * sz) && σ.may a.block && Nat.beq e elem then
          match (σ.put a.block none).alloc (.cells (c ++ new) elem) with
          | some (m, σ') => some (.slice (some ⟨m, 0, none⟩) (sLen + n) (UNK + sz), σ')
          | none => none
        else none
      | _ => none
    | none => none
  else bif Nat.ble (sLen + n) sCap then
    match base with
    | none => some (.slice none (sLen + n) sCap, σ)
    | some a => match σ.get a.block with
      | some (.cells c e) => bif σ.may a.block then (setsL c (a.off + sLen * sz) new).map fun c => (.slice (some a) (sLen + n) sCap, σ.put a.block (some (.cells c e))) else none
      | _ => none
  else match old with
    | some (old, _) => match σ.alloc (.cells (old ++ new) elem) with
      | some (m, σ') => some (.slice (some ⟨m, 0, none⟩) (sLen + n) (UNK + sz), σ')
      | none => none
    | none => none

def absAppend (P : Program) (sT xT : TypeId) (s x : Value) (σ : AHeap) : Option (Value × AHeap) :=
  match P.underlying sT, P.underlying xT, s with
  | some (.slice elem), some xd, .slice base sLen sCap =>
    match size P elem, bytesOf P elem, absCells P elem x σ, zero P elem with
    | some sz, some by_, some (new, n), some z =>
      bif !isIntT xd && Nat.beq z.length sz && Nat.blt sz UNK && Nat.ble ((2 * (sLen + n) + 192) * by_) 140737488355328 && Nat.ble (sLen + n) 1152921504606846976 && new.all scalar then
        absApp σ elem sz n new base sLen sCap (absCells P elem (.slice base sLen sCap) σ)
      else none
    | _, _, _, _ => none
  | _, _, _ => none

theorem all_scalar_rel {r : Ren} : ∀ {l l' : List Value}, LRel r l l' → l.all scalar = true → ∀ v ∈ l', (∀ x, v ≠ .agg x) ∧ (∀ x, v ≠ .tuple x)
  | [], l', h, _, v, hv => by rw [h.nil_left] at hv; simp at hv
  | a :: l, l', h, hs, v, hv => by
    obtain ⟨b, m, rfl, hab, hm⟩ := h.cons_left
    simp only [List.all_cons, Bool.and_eq_true] at hs
    rcases List.mem_cons.1 hv with rfl | hv
    · exact scalar_rel hab hs.1
    · exact all_scalar_rel hm hs.2 v hv

/-- A name given up for a new one, in the same block, which has been written behind. -/
theorem Step.move {r : Ren} {σ σ' : AHeap} {w : World} {n m b : Nat} {ob o : AObj} {o' : Obj} (h : WRel r σ w) (hg : σ.get n = some ob) (hn : r.rel n b) (hmay : σ.may n = true)
    (ha : (σ.put n none).alloc o = some (m, σ')) (ho : ORel (r.add m b (r.bs b)) b o o') :
    Step r σ w (r.add m b (r.bs b)) σ' { w with heap := w.heap.setIfInBounds b o' } ∧ (r.add m b (r.bs b)).rel m b := by
  have hlt := h.lt n b hn
  have hgive := Step.give h hg hlt.1 hmay
  have hm : σ.lim ≤ n := by simpa [AHeap.may] using hmay
  obtain ⟨hm0, h1, h2, h3, h4, h5, h6, h7, h8t⟩ := AHeap.alloc_spec ha
  have hm1 : m = σ.next := hm0
  clear hm0
  subst hm1
  have h1 : σ'.next = σ.next + 1 := h1
  have h3 : σ'.lim = σ.lim := h3
  have h4 : σ'.hid = σ.hid := h4
  have h5 : σ'.glob = σ.glob := h5
  have hnn : (σ.put n none).get n = none := AHeap.get_put_same σ n _ (by have := h.small; omega) (AHeap.hid_of_get σ n hg)
  have hle : r.le (r.add σ.next b (r.bs b)) := ⟨fun _ _ hr => .inl hr, fun k c hr => by
    simp only [Ren.add]; split
    · rename_i e; rw [e]
    · rfl, rfl⟩
  have old : ∀ k, k ≠ σ.next → σ'.get k ≠ none → σ.get k ≠ none ∧ k ≠ n := by
    intro k hk hne
    rw [h7 k hk] at hne
    by_cases hkn : k = n
    · subst hkn; exact absurd hnn hne
    · rw [AHeap.get_put_other σ n k _ hkn] at hne; exact ⟨hne, hkn⟩
  have hr : WRel (r.add σ.next b (r.bs b)) σ' { w with heap := w.heap.setIfInBounds b o' } := by
    refine ⟨h2, ?_, ?_, ?_, ?_, ?_, fun k hk => by
      rw [h8t k (by omega)]
      have hne : k ≠ n := by rintro rfl; exact absurd hlt.1 (by omega)
      show (σ.t.set 64 n none).get k = none
      rw [Tree.get_set_other 64 _ _ _ _ hne]; exact h.top k (by omega), ?_, fun c hc => by have := h.rob c hc; simp only [Array.size_setIfInBounds]; exact this⟩
    case refine_6 =>
      rintro k c (hk | ⟨rfl, rfl⟩) hl hro
      · exact h.wr k c hk (by omega) hro
      · exact h.wr n c hn hm hro
    · rintro k c (hk | ⟨rfl, rfl⟩)
      · have := h.lt k c hk; simp only [Array.size_setIfInBounds]; omega
      · simp only [Array.size_setIfInBounds]; omega
    · rintro k c c' (hk | ⟨rfl, rfl⟩) (hk' | ⟨e1, rfl⟩)
      · exact h.fn k c c' hk hk'
      · have := (h.lt k c hk).1; omega
      · have := (h.lt _ c' hk').1; omega
      · rfl
    · rintro k j c hk hj (h8 | ⟨rfl, rfl⟩) (h9 | ⟨rfl, e2⟩)
      · have e1 := (h.lt k c h8).1
        have e2 := (h.lt j c h9).1
        exact h.inj k j c (old k (by omega) hk).1 (old j (by omega) hj).1 h8 h9
      · have e1 := (h.lt k c h8).1
        have h10 := old k (by omega) hk
        subst e2
        exact ((h.inj k n c h10.1 (AHeap.get_ne_none hg) h8 hn).elim h10.2 (h.wr n c hn hm)).elim
      · have e1 := (h.lt j c h9).1
        have h10 := old j (by omega) hj
        exact ((h.inj j n c h10.1 (AHeap.get_ne_none hg) h9 hn).elim h10.2 (h.wr n c hn hm)).elim
      · exact .inl rfl
    · intro k ok hk
      by_cases hkn : k = σ.next
      · subst hkn
        rw [h6] at hk
        obtain rfl := Option.some.inj hk
        exact ⟨b, o', .inr ⟨rfl, rfl⟩, by simp [Array.getElem?_setIfInBounds, hlt.2], ho⟩
      · have h10 := old k hkn (by rw [hk]; simp)
        rw [h7 k hkn, AHeap.get_put_other σ n k _ h10.2] at hk
        obtain ⟨c, ok', hc, hd, he⟩ := h.obj k ok hk
        have hcb : b ≠ c := by
          rintro rfl
          exact (h.inj k n b h10.1 (AHeap.get_ne_none hg) hc hn).elim h10.2 (h.wr n b hn hm)
        exact ⟨c, ok', .inl hc, by simp only [Array.getElem?_setIfInBounds_ne hcb]; exact hd, he.mono hle hc⟩
    · intro g hg'; exact .inl (h.glob g (by rw [h5] at hg'; exact hg'))
  refine ⟨⟨hle, ?_, hr, by simp, ?_, ?_, ?_, by omega, h3, h4, h5, rfl, rfl, rfl⟩, .inr ⟨rfl, rfl⟩⟩
  · rintro k c (hk | ⟨rfl, rfl⟩)
    · exact .inl hk
    · exact .inr ⟨Nat.le_refl _, .inr ⟨n, hn, AHeap.get_ne_none hg, hm⟩⟩
  · intro c hc hd
    have hcb : b ≠ c := by
      rintro rfl
      rcases hd n hn with h6 | h6
      · rw [hg] at h6; simp at h6
      · omega
    simp only [Array.getElem?_setIfInBounds_ne hcb]
  · intro k hk hd
    rw [h7 k (by omega)]
    by_cases hkn : k = n
    · subst hkn; exact hnn
    · rw [AHeap.get_put_other σ n k _ hkn]; exact hd
  · intro k hl hk
    rw [h7 k (by omega), AHeap.get_put_other σ n k _ (by omega)]

theorem app_ok {P : Program} {r : Ren} {σ σ' : AHeap} {w : World} {sT xT ty elem sz by_ n sLen sCap : Nat} {zv : Value} {base : Option Addr} {s' x' v : Value} {new new' : List Value} (h : WRel r σ w)
    (F : AppFacts P sT xT elem sz by_ zv) (hs : VRel r (.slice base sLen sCap) s') (g1 : zv.cells.size = sz) (g2 : sz < UNK) (g3 : (2 * (sLen + n) + 192) * by_ ≤ 2 ^ 47) (g4 : sLen + n ≤ 2 ^ 60) (g5 : new.all scalar = true)
    (q1 : (Builtin.lenOf x').run P w = .ok n w) (q2 : new.length = n * sz) (q3 : LRel r new new') (q4 : ∀ d, (Builtin.firstCells sz n x').run P { w with drawn := d } = .ok new'.toArray { w with drawn := d })
    (ha : absApp σ elem sz n new base sLen sCap (absCells P elem (.slice base sLen sCap) σ) = some (v, σ')) :
    ∃ v' r' w', (Builtin.append_ #[sT, xT] ty #[s', x']).run P w = .ok v' w' ∧ Step r σ w r' σ' w' ∧ VRel r' v v' := by
  have q4w : (Builtin.firstCells sz n x').run P w = .ok new'.toArray w := q4 w.drawn
  have q2' : new'.length = n * sz := by rw [← q3.1, q2]
  have hnew : ∀ v ∈ new', (∀ x, v ≠ .agg x) ∧ (∀ x, v ≠ .tuple x) := all_scalar_rel q3 g5
  unfold absApp at ha
  by_cases hU : Nat.ble UNK sCap = true
  · rw [hU, cond_true] at ha
    simp only [Nat.ble_eq] at hU
    split at ha
    · rename_i a
      have hZ : sCap ≠ UNK3 := by
        rintro rfl
        split at ha
        · rename_i c e hg
          cases hb : (Nat.beq UNK3 (UNK + sz) && Nat.beq a.off 0 && Nat.beq c.length (sLen * sz) && σ.may a.block && Nat.beq e elem) with
          | false => rw [hb, cond_false] at ha; simp at ha
          | true =>
            simp only [Bool.and_eq_true, Nat.beq_eq] at hb
            have : UNK3 = UNK + UNK + UNK + UNK := by decide
            omega
        · simp at ha
      obtain ⟨b, o', c', rfl, hsp, hr, hcs⟩ := hs.slice_inv (fun h => hZ h.2)
      split at ha
      · rename_i c e hg
        by_cases hb : (Nat.beq sCap (UNK + sz) && Nat.beq a.off 0 && Nat.beq c.length (sLen * sz) && σ.may a.block && Nat.beq e elem) = true
        · rw [hb, cond_true] at ha
          simp only [Bool.and_eq_true, Nat.beq_eq] at hb
          obtain ⟨⟨⟨⟨e1, e2⟩, e3⟩, e4⟩, e5⟩ := hb
          subst e5
          split at ha
          · rename_i m σ1 hal
            simp only [Option.some.injEq, Prod.mk.injEq] at ha
            obtain ⟨rfl, rfl⟩ := ha
            rcases hcs with ⟨_, _, h7⟩ | ⟨_, h7⟩ | ⟨k, hk0, rfl, hk, h5, h6⟩
            · omega
            · have : UNK2 = UNK + UNK := by decide
              omega
            · have hks : k = sz := by omega
              subst hks
              obtain ⟨b', ob, hb', hw, ho⟩ := h.obj _ _ hg
              obtain rfl := h.fn _ _ _ hr hb'
              cases ho with
              | cells c c2 e fz hlen hf0 hbs hcr =>
                have hf := hf0.resolve_left (h.wr _ b hr (by simpa [AHeap.may] using e4))
                by_cases hin : sLen + n ≤ c'
                · -- in place
                  have hsz : 0 + (sLen + n) * k ≤ c2.size := by
                    have : (sLen + n) * k ≤ c' * k := Nat.mul_le_mul_right k hin
                    rw [hbs] at h6; omega
                  have hsplit : (sLen + n) * k = sLen * k + n * k := Nat.add_mul _ _ _
                  have hst := run_storeCells (P := P) (off := sLen * k) (fz := fz) new' 0 w c2 hw hf hnew (by omega)
                  have hfin : setMany c2 (sLen * k + 0) new' = (c2.toList.take (sLen * k) ++ new' ++ c2.toList.drop (sLen * k + new'.length)).toArray := by
                    apply Array.ext'
                    rw [setMany_list _ _ _ (by omega)]; simp
                  have hrel2 : LRel (r.add m b (r.bs b)) (c ++ new) ((setMany c2 (sLen * k + 0) new').toList.take (c ++ new).length) := by
                    rw [setMany_list _ _ _ (by omega)]
                    have hl : (c ++ new).length = (c2.toList.take (sLen * k) ++ new').length := by simp; omega
                    rw [hl, Nat.add_zero, List.take_left]
                    have hle : r.le (r.add m b (r.bs b)) := ⟨fun _ _ hr => .inl hr, fun k c hr => by
                      simp only [Ren.add]; split
                      · rename_i e; rw [e]
                      · rfl, rfl⟩
                    refine (LRel.append ?_ q3).mono hle
                    rw [← e3]; exact hcr
                  obtain ⟨hstep, hrel⟩ := Step.move (o' := .cells (setMany c2 (sLen * k + 0) new') e fz) h hg hr e4 hal
                    (.cells _ _ e fz (by rw [setMany_size]; simp; omega) (.inr (by rw [setMany_size]; exact hf)) (by rw [setMany_size]; simp [Ren.add]; exact hbs) hrel2)
                  refine ⟨.slice (some ⟨b, a.off, none⟩) (sLen + n) c', _, _, ?_, hstep, ?_⟩
                  · refine append_stay F q1 q4w hin ?_
                    show (storeCells (Addr.add ⟨b, a.off, none⟩ (sLen * k)) new').run P w = _
                    rw [add_none, e2, Nat.zero_add, hst]
                    by_cases hn0 : new' = []
                    · rw [if_pos hn0]
                      congr 1
                      subst hn0
                      simp only [setMany]
                      have : w.heap.setIfInBounds b (.cells c2 e fz) = w.heap := by
                        apply Array.ext_getElem?
                        intro i
                        rw [Array.getElem?_setIfInBounds]
                        by_cases hi : b = i
                        · subst hi; rw [hw]; simp [(h.lt _ b hr).2]
                        · simp [hi]
                      rw [this]
                    · rw [if_neg hn0]
                  · rw [e2]
                    refine .sliceU _ _ _ _ _ _ hrel hk0 hin ?_
                    simp only [Ren.add, if_true]; omega
                · -- a new block
                  have hgive := Step.give h hg (h.lt _ _ hr).1 e4
                  have hold : ∀ d, (Builtin.firstCells k sLen (.slice (some ⟨b, a.off, none⟩) sLen c')).run P { w with drawn := d } = .ok (c2.toList.take c.length).toArray { w with drawn := d } := by
                    intro d
                    have hwd : ({ w with drawn := d } : World).heap[b]? = some (.cells c2 e fz) := hw
                    simp only [Builtin.firstCells]
                    rw [run_loadCells hwd (by omega), e2, ← e3]; simp
                  obtain ⟨cap, hcap, rest, hrest, hrun⟩ := append_grow (base := some ⟨b, a.off, none⟩) (sLen := sLen) (sCap := c') (old := (c2.toList.take c.length).toArray) (new := new'.toArray) (ty := ty) F q1 hin g3 g4 g1 q4 hold
                  have hdrew := Step.drew hgive.rel (w.drawn + 1)
                  have hl1 : (c2.toList.take c.length).length = c.length := by simp; omega
                  have hll : (c ++ new).length = (c2.toList.take c.length ++ new').length := by simp only [List.length_append, hl1, q2, q2']
                  have hlist : ((c2.toList.take c.length).toArray ++ new'.toArray ++ rest).toList = (c2.toList.take c.length ++ new') ++ rest.toList := by simp
                  have hsz : ((c2.toList.take c.length).toArray ++ new'.toArray ++ rest).size = cap * k := by
                    simp only [Array.size_append, List.size_toArray, hl1, q2', hrest]
                    rw [e3]
                    have : sLen * k + n * k + (cap - (sLen + n)) * k = cap * k := by rw [← Nat.add_mul, ← Nat.add_mul]; congr 1; omega
                    exact this
                  obtain ⟨b2, r2, w2, k1, k2, k3, k4⟩ := newRow_ok (P := P) (w := { w with drawn := w.drawn + 1 }) hdrew.rel (cs := c ++ new) (cs' := (c2.toList.take c.length).toArray ++ new'.toArray ++ rest)
                    (by rw [← Array.length_toList, hlist, hll]; simp) (by rw [hlist, hll, List.take_left]; exact hcr.append q3) hal
                  rw [run_newRow] at k1
                  simp only [Result.ok.injEq, Addr.mk.injEq, and_true] at k1
                  obtain ⟨rfl, rfl⟩ := k1
                  refine ⟨_, r2, _, hrun, Step.trans h (Step.trans h hgive hdrew) k2, ?_⟩
                  exact .sliceU _ _ _ _ _ _ k3 hk0 hcap (by rw [k4, hsz]; omega)
          · simp at ha
        · simp only [Bool.not_eq_true] at hb; rw [hb, cond_false] at ha; simp at ha
      · simp at ha
    · simp at ha
  · have hU' : sCap < UNK := by simp only [Nat.ble_eq] at hU; omega
    simp only [Bool.not_eq_true] at hU
    rw [hU, cond_false] at ha
    by_cases hin : Nat.ble (sLen + n) sCap = true
    · rw [hin, cond_true] at ha
      simp only [Nat.ble_eq] at hin
      split at ha
      · simp only [Option.some.injEq, Prod.mk.injEq] at ha
        obtain ⟨rfl, rfl⟩ := ha
        obtain rfl := hs.nilslice_inv
        exact ⟨_, r, w, append_stay F q1 q4w hin (by simp), Step.refl h, .atom _ rfl⟩
      · rename_i a
        obtain ⟨b, o', c', rfl, hsp, hr, hcs⟩ := hs.slice_inv (lt3 hU' _)
        split at ha
        · rename_i c e hg
          by_cases hm : σ.may a.block = true
          · rw [hm, cond_true] at ha
            obtain ⟨m, hset, heq⟩ := Option.map_eq_some_iff.1 ha
            simp only [Prod.mk.injEq] at heq
            obtain ⟨rfl, rfl⟩ := heq
            rcases hcs with ⟨rfl, rfl, h7⟩ | ⟨_, h7⟩ | ⟨k, hk0, _, hk, _, _⟩
            · obtain ⟨b', ob, hb', hw, ho⟩ := h.obj _ _ hg
              obtain rfl := h.fn _ _ _ hr hb'
              cases ho with
              | cells c c2 e fz hlen hf0 hbs hcr =>
                have hf := hf0.resolve_left (h.wr _ b hr (by simpa [AHeap.may] using hm))
                obtain ⟨s1, s2, s3, s4⟩ := setsL_spec hset q3 hlen hcr
                refine ⟨.slice (some ⟨b, a.off, none⟩) (sLen + n) c', r, { w with heap := w.heap.setIfInBounds b (.cells (setMany c2 (a.off + sLen * sz) new') e fz) }, ?_, ?_, ?_⟩
                · refine append_stay F q1 q4w hin ?_
                  simp only [add_none]
                  by_cases hn0 : new' = []
                  · subst hn0
                    simp only [storeCells, Sem.run_pure, setMany]
                    congr 1
                    have : w.heap.setIfInBounds b (.cells c2 e fz) = w.heap := by
                      apply Array.ext_getElem?
                      intro i
                      rw [Array.getElem?_setIfInBounds]
                      by_cases hi : b = i
                      · subst hi; rw [hw]; simp [(h.lt _ b hr).2]
                      · simp [hi]
                    rw [this]
                  · have hle : a.off + sLen * sz + new'.length ≤ c2.size := by
                      rcases s1 with s1 | s1
                      · exact absurd (by have := q3.1; rw [s1] at this; simpa using this.symm) hn0
                      · have := q3.1; omega
                    have hst := run_storeCells (P := P) (off := a.off + sLen * sz) (fz := fz) new' 0 w c2 hw hf hnew (by omega)
                    rw [hst, if_neg hn0, Nat.add_zero]
                · exact Step.put h hg hr hm (.cells m _ e fz (by rw [setMany_size]; omega) (.inr (by rw [setMany_size]; exact hf)) (by rw [setMany_size]; exact hbs) (by rw [s2]; exact s3))
                · obtain ⟨ab, ao, as⟩ := a
                  simp only at hsp
                  subst hsp
                  exact .slice _ _ _ _ _ hr hU'
            · have : UNK ≤ UNK2 := by decide
              omega
            · omega
          · simp only [Bool.not_eq_true] at hm; rw [hm, cond_false] at ha; simp at ha
        · simp at ha
    · have hin' : ¬ sLen + n ≤ sCap := by simpa [Nat.ble_eq] using hin
      simp only [Bool.not_eq_true] at hin
      rw [hin, cond_false] at ha
      split at ha
      · rename_i old oldn hold
        split at ha
        · rename_i m σ1 hal
          simp only [Option.some.injEq, Prod.mk.injEq] at ha
          obtain ⟨rfl, rfl⟩ := ha
          obtain ⟨_, ol, old', o3, o4⟩ := absCells_ok h hs F.hz hold
          have hlenold : oldn = sLen := by
            unfold absCells at hold
            split at hold
            · rename_i heq
              simp only [Option.some.injEq, Prod.mk.injEq] at hold
              have := Value.slice.inj heq
              omega
            · rename_i heq
              have := Value.slice.inj heq
              cases hz : (Nat.beq _ 0 && Nat.beq _ UNK3) with
              | true =>
                rw [hz, cond_true] at hold
                simp only [Option.some.injEq, Prod.mk.injEq] at hold
                simp only [Bool.and_eq_true, Nat.beq_eq] at hz
                omega
              | false =>
              rw [hz, cond_false] at hold
              split at hold
              · obtain ⟨l0, _, heq2⟩ := Option.map_eq_some_iff.1 hold
                simp only [Prod.mk.injEq] at heq2
                omega
              · simp at hold
            · rename_i heq; cases heq
            · simp at hold
          subst hlenold
          have ol' : old'.length = oldn * sz := by rw [← o3.1, ol]
          have hfull : old'.take (oldn * sz) = old' := List.take_of_length_le (by omega)
          obtain ⟨a', c', hsv, hcv⟩ : ∃ a' c', s' = .slice a' oldn c' ∧ c' = sCap := by
            cases base with
            | none => obtain rfl := hs.nilslice_inv; exact ⟨_, _, rfl, rfl⟩
            | some a =>
              obtain ⟨b, o', c', rfl, _, _, hcs⟩ := hs.slice_inv (lt3 hU' _)
              rcases hcs with ⟨_, h7, _⟩ | ⟨_, h7⟩ | ⟨k, _, _, hk, _, _⟩
              · exact ⟨_, _, rfl, h7⟩
              · have : UNK ≤ UNK2 := by decide
                omega
              · omega
          subst hcv hsv
          obtain ⟨cap, hcap, rest, hrest, hrun⟩ := append_grow (base := a') (sLen := oldn) (sCap := c') (old := old'.toArray) (new := new'.toArray) (ty := ty) F q1 hin' g3 g4 g1 q4
            (fun d => by have := o4 d oldn (Nat.le_refl _); rw [hfull] at this; exact this)
          have hdrew := Step.drew h (w.drawn + 1)
          have hll : (old ++ new).length = (old' ++ new').length := by simp only [List.length_append, ol, ol', q2, q2']
          have hlist : (old'.toArray ++ new'.toArray ++ rest).toList = (old' ++ new') ++ rest.toList := by simp
          have hsz : (old'.toArray ++ new'.toArray ++ rest).size = cap * sz := by
            simp only [Array.size_append, List.size_toArray, ol', q2', hrest]
            have : oldn * sz + n * sz + (cap - (oldn + n)) * sz = cap * sz := by rw [← Nat.add_mul, ← Nat.add_mul]; congr 1; omega
            exact this
          obtain ⟨b2, r2, w2, k1, k2, k3, k4⟩ := newRow_ok (P := P) (w := { w with drawn := w.drawn + 1 }) hdrew.rel (cs := old ++ new) (cs' := old'.toArray ++ new'.toArray ++ rest)
            (by rw [← Array.length_toList, hlist, hll]; simp) (by rw [hlist, hll, List.take_left]; exact o3.append q3) hal
          rw [run_newRow] at k1
          simp only [Result.ok.injEq, Addr.mk.injEq, and_true] at k1
          obtain ⟨rfl, rfl⟩ := k1
          refine ⟨_, r2, _, hrun, Step.trans h hdrew k2, ?_⟩
          exact .sliceU _ _ _ _ _ _ k3 g2 hcap (by rw [k4, hsz]; omega)
        · simp at ha
      · simp at ha

theorem append_ok {P : Program} {r : Ren} {σ σ' : AHeap} {w : World} {sT xT ty : TypeId} {s s' x x' v : Value} (h : WRel r σ w) (hs : VRel r s s') (hx : VRel r x x') (ha : absAppend P sT xT s x σ = some (v, σ')) :
    ∃ v' r' w', (Builtin.append_ #[sT, xT] ty #[s', x']).run P w = .ok v' w' ∧ Step r σ w r' σ' w' ∧ VRel r' v v' := by
  unfold absAppend at ha
  split at ha
  · rename_i elem xd base sLen sCap hsu hxu
    split at ha
    · rename_i sz by_ new n z hsz hby hcx hz
      obtain ⟨zv, hzv, rfl, hzn⟩ := zero_spec hz
      by_cases hb : (!isIntT xd && Nat.beq zv.cells.toList.length sz && Nat.blt sz UNK && Nat.ble ((2 * (sLen + n) + 192) * by_) 140737488355328 && Nat.ble (sLen + n) 1152921504606846976 && new.all scalar) = true
      · rw [hb, cond_true] at ha
        simp only [Bool.and_eq_true, Nat.ble_eq, Nat.beq_eq, Nat.blt_eq, Bool.not_eq_true'] at hb
        obtain ⟨⟨⟨⟨⟨g0, g1⟩, g2⟩, g3⟩, g4⟩, g5⟩ := hb
        have F : AppFacts P sT xT elem sz by_ zv := ⟨hsu, ⟨xd, hxu, fun k hk => by rw [hk] at g0; simp [isIntT] at g0⟩, hsz, hby, hzv⟩
        obtain ⟨q1, q2, new', q3, q4⟩ := absCells_ok h hx hsz hcx
        have q2' : new'.length = n * sz := by rw [← q3.1, q2]
        have hfull : new'.take (n * sz) = new' := List.take_of_length_le (by omega)
        exact app_ok h F hs (by simpa using g1) g2 g3 g4 g5 q1 q2 q3 (fun d => by rw [q4 d n (Nat.le_refl n), hfull]) ha
      · simp only [Bool.not_eq_true] at hb; rw [hb, cond_false] at ha; simp at ha
    · simp at ha
  · simp at ha

end Go.Abs
