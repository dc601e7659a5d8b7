/- A10S: operations over values that are not known in full: what is asked of them is noted ('obl'), not looked at. General over the program. -/
import Derived.Test.YtcadfopmadjanaaA10
namespace Go.Abs
set_option linter.unusedVariables false
set_option linter.unusedSimpArgs false

/-! ### What is noted -/
def AHeap.oblige (σ : AHeap) (b : Bool) : AHeap := { σ with obl := b :: σ.obl }
def okObl (σ : AHeap) : Prop := σ.obl.all id = true
theorem okObl.oblige {σ : AHeap} {b : Bool} (h : okObl (σ.oblige b)) : b = true ∧ okObl σ := by
  simpa [okObl, AHeap.oblige] using h

/-- Two heaps that differ by what is noted alone. -/
structure SameH (σ τ : AHeap) : Prop where
  t : τ.t = σ.t
  next : τ.next = σ.next
  lim : τ.lim = σ.lim
  hid : τ.hid = σ.hid
  glob : τ.glob = σ.glob
  obl : okObl τ → okObl σ
theorem SameH.refl (σ : AHeap) : SameH σ σ := ⟨rfl, rfl, rfl, rfl, rfl, fun h => h⟩
theorem SameH.oblige (σ : AHeap) (b : Bool) : SameH σ (σ.oblige b) := ⟨rfl, rfl, rfl, rfl, rfl, fun h => h.oblige.2⟩
theorem SameH.get {σ τ : AHeap} (h : SameH σ τ) (n : Nat) : τ.get n = σ.get n := by simp only [AHeap.get, h.t, h.hid]
theorem SameH.wrel {σ τ : AHeap} (h : SameH σ τ) {r : Ren} {w : World} (hw : WRel r σ w) : WRel r τ w := by
  refine ⟨by rw [h.next]; exact hw.small, fun n b hn => by rw [h.next]; exact hw.lt n b hn, hw.fn, fun n m b hn hm => ?_, fun n o ho => ?_, fun g hg => ?_, fun n hn => ?_, ?_, ?_⟩
  · rw [h.get] at hn hm; exact hw.inj n m b hn hm
  · rw [h.get] at ho; exact hw.obj n o ho
  · rw [h.glob] at hg; exact hw.glob g hg
  · rw [h.next] at hn; rw [h.t]; exact hw.top n hn
  · exact fun n b hn hl => hw.wr n b hn (by rw [h.lim] at hl; exact hl)
  · exact hw.rob
theorem Step.same {r r' : Ren} {σ σ' τ : AHeap} {w w' : World} (h : Step r σ w r' σ' w') (s : SameH σ' τ) : Step r σ w r' τ w' where
  le := h.le
  fresh := h.fresh
  rel := s.wrel h.rel
  size := h.size
  frame := h.frame
  dead := fun n hn hd => by rw [s.get]; exact h.dead n hn hd
  keep := fun n hl hn => by rw [s.get]; exact h.keep n hl hn
  next := by rw [s.next]; exact h.next
  lim := s.lim.trans h.lim
  hid := s.hid.trans h.hid
  gl := s.glob.trans h.gl
  os := h.os
  tape := h.tape
  output := h.output

/-- What is noted only grows. -/
def Grows (σ σ' : AHeap) : Prop := okObl σ' → okObl σ

/-! ### A branch that hangs on what is not known -/
/-- Which way: by the next hint, if there is one; what it takes to be so is noted. -/
def decideB (σ : AHeap) (t : Bool) : Bool × AHeap :=
  match σ.hints with
  | [] => (t, σ)
  | none :: l => (t, { σ with hints := l })
  | some b :: l => (b, { σ with hints := l, obl := (bif b then t else !t) :: σ.obl })
theorem decideB_ok {σ : AHeap} {t : Bool} (h : okObl (decideB σ t).2) : (decideB σ t).1 = t ∧ okObl σ := by
  unfold decideB at h ⊢
  split at h
  · exact ⟨rfl, h⟩
  · exact ⟨rfl, h⟩
  · rename_i b l hl
    have h : okObl { σ with hints := l, obl := (bif b then t else !t) :: σ.obl } := h
    simp only [okObl, List.all_cons, Bool.and_eq_true] at h
    refine ⟨?_, h.2⟩
    have := h.1
    cases b <;> cases t <;> simp_all
theorem decideB_same (σ : AHeap) (t : Bool) : SameH σ (decideB σ t).2 := by
  refine ⟨?_, ?_, ?_, ?_, ?_, fun h => (decideB_ok h).2⟩
  all_goals (unfold decideB; split <;> rfl)

/-! ### Values of which the kind is known -/
def intV : Value → Int
  | .int _ n => n
  | _ => 0
def boolV : Value → Bool
  | .bool b => b
  | _ => false
def strV : Value → ByteArray
  | .string s => s
  | _ => ByteArray.empty
def isIntB (k : IntKind) : Value → Bool
  | .int k' _ => decide (k' = k)
  | _ => false
def isBoolB : Value → Bool
  | .bool _ => true
  | _ => false
def isStrB : Value → Bool
  | .string _ => true
  | _ => false
/-- A value, by its type, and what is asked of it. -/
def etaOf (d : Option TypeDesc) (v : Value) : Option (Value × Bool) :=
  match d with
  | some (.int k) => some (.int k (intV v), isIntB k v)
  | some .bool => some (.bool (boolV v), isBoolB v)
  | some .string => some (.string (strV v), isStrB v)
  | _ => none
theorem etaOf_ok {d : Option TypeDesc} {v u : Value} {b : Bool} (h : etaOf d v = some (u, b)) (hb : b = true) : u = v := by
  subst hb
  unfold etaOf at h
  split at h
  · rename_i k
    simp only [Option.some.injEq, Prod.mk.injEq] at h
    obtain ⟨rfl, h2⟩ := h
    cases v <;> simp [isIntB] at h2
    subst h2; rfl
  · simp only [Option.some.injEq, Prod.mk.injEq] at h
    obtain ⟨rfl, h2⟩ := h
    cases v <;> simp [isBoolB] at h2
    rfl
  · simp only [Option.some.injEq, Prod.mk.injEq] at h
    obtain ⟨rfl, h2⟩ := h
    cases v <;> simp [isStrB] at h2
    rfl
  · simp at h

/-! ### The operations -/
/-- A slice's capacity that tells that not all of it is known. -/
def loose (cap : Nat) : Bool := Nat.ble UNK cap && !Nat.beq cap UNK2 && !Nat.beq cap UNK3

def symIndexAddr (P : Program) (t : TypeId) (x ix : Value) (σ : AHeap) : Option (Value × AHeap) :=
  match x, ix with
  | .slice (some a) len cap, .int _ i => bif loose cap then
      match P.underlying t with
      | some (.slice elem) => (size P elem).map fun s => (.pointer (some ⟨a.block, a.off + i.toNat * s, some 0⟩), σ.oblige (decide (0 ≤ i) && Nat.blt i.toNat len))
      | _ => none
    else none
  | .pointer (some a), .int _ i => match P.underlying t with
    | some (.array len elem) => (size P elem).map fun s => (.pointer (some ⟨a.block, a.off + i.toNat * s, some 0⟩), σ.oblige (decide (0 ≤ i) && Nat.blt i.toNat len))
    | _ => none
  | _, _ => none
def symLoad (P : Program) (t : TypeId) (x : Value) (σ : AHeap) : Option (Value × AHeap) :=
  match x with
  | .pointer (some a) => match a.spot with
    | some _ => match σ.get a.block with
      | some (.cells c e) => (etaOf (P.underlying t) ((getL c a.off).getD undef)).map fun q => (q.1, σ.oblige (Nat.blt a.off c.length && q.2))
      | _ => none
    | none => none
  | _ => none
def symStore (P : Program) (t : TypeId) (x y : Value) (σ : AHeap) : Option (Value × AHeap) :=
  match x with
  | .pointer (some a) => match a.spot with
    | some _ => match σ.get a.block with
      | some (.cells c e) => match size P t with
        | some 1 => bif scalar y && σ.may a.block then some (undef, (σ.put a.block (some (.cells (setL c a.off y) e))).oblige (Nat.blt a.off c.length)) else none
        | _ => none
      | _ => none
    | none => none
  | _ => none
def symPick (c x y : Value) (σ : AHeap) : Option (Value × AHeap) :=
  match c, x, y with
  | .bool t, .int k n, .int k' m => some (.int k (bif t then n else m), σ.oblige (decide (k' = k)))
  | .bool t, .bool n, .bool m => some (.bool (bif t then n else m), σ)
  | _, _, _ => none
/-- A shift by a number that is not known; a division by one. -/
def symBin (op : BinOp) (x y : Value) (σ : AHeap) : Option (Value × AHeap) :=
  match op, x, y with
  | .shl, .int k a, .int _ b => some (.int k (k.wrap (a * 2 ^ min b.toNat k.bits)), σ.oblige (!decide (b < 0)))
  | .shr, .int k a, .int _ b => some (.int k (a.fdiv (2 ^ min b.toNat k.bits)), σ.oblige (!decide (b < 0)))
  | .quo, .int k a, .int k' b => some (.int k (k.wrap (a.tdiv b)), σ.oblige (decide (k = k') && !decide (b = 0)))
  | .rem, .int k a, .int k' b => some (.int k (a.tmod b), σ.oblige (decide (k = k') && !decide (b = 0)))
  | _, _, _ => none
/-- 'make' of a length that is not known: where a hint says so. -/
def symMake (P : Program) (t : TypeId) (l c : Value) (σ : AHeap) : Option (Value × AHeap) :=
  match σ.hints with
  | some _ :: hs => match P.underlying t, l, c with
    | some (.slice elem), .int _ l, .int _ c => match size P elem, zero P elem, bytesOf P elem with
      | some sz, some z, some by_ =>
        match ({ σ with hints := hs } : AHeap).alloc (.cells (rep c.toNat z) elem) with
        | some (n, σ') => some (.slice (some ⟨n, 0, none⟩) l.toNat (UNK + sz),
            σ'.oblige (decide (0 ≤ l) && decide (0 ≤ c) && Nat.ble l.toNat c.toNat && Nat.ble c.toNat 1099511627776 && Nat.ble (by_ * c.toNat) 1099511627776 && Nat.beq z.length sz && Nat.blt sz UNK))
        | none => none
      | _, _, _ => none
    | _, _, _ => none
  | _ => none

/-- What is appended, and what is asked. -/
def symCells (P : Program) (elem : TypeId) (x : Value) (σ : AHeap) : Option (List Value × Nat × Bool) :=
  match x with
  | .slice (some a) n cap => bif loose cap then
      match σ.get a.block, size P elem with
      | some (.cells c _), some s => some ((c.drop a.off).take (n * s), n, Nat.ble (n * s) (c.drop a.off).length)
      | _, _ => none
    else (absCells P elem x σ).map fun q => (q.1, q.2, true)
  | x => (absCells P elem x σ).map fun q => (q.1, q.2, true)
def looseV : Value → Bool
  | .slice (some _) _ cap => loose cap
  | _ => false
def symAppend (P : Program) (sT xT : TypeId) (s x : Value) (σ : AHeap) : Option (Value × AHeap) :=
  match P.underlying sT, P.underlying xT, s with
  | some (.slice elem), some xd, .slice base sLen sCap =>
    bif looseV s || looseV x then
      match size P elem, bytesOf P elem, symCells P elem x σ, zero P elem with
      | some sz, some by_, some (new, n, B), some z =>
        let B2 := !isIntT xd && Nat.beq z.length sz && Nat.blt sz UNK && Nat.ble ((2 * (sLen + n) + 192) * by_) 140737488355328 && Nat.ble (sLen + n) 1152921504606846976 && new.all scalar
        bif looseV s then
          match base with
          | some a => match σ.get a.block with
            | some (.cells c e) =>
              bif Nat.beq sCap (UNK + sz) && Nat.beq a.off 0 && σ.may a.block && Nat.beq e elem then
                match (σ.put a.block none).alloc (.cells (c ++ new) elem) with
                | some (m, σ') => some (.slice (some ⟨m, 0, none⟩) (sLen + n) (UNK + sz), σ'.oblige (B && B2 && Nat.beq c.length (sLen * sz)))
                | none => none
              else none
            | _ => none
          | none => none
        else
          match absCells P elem (.slice base sLen sCap) σ with
          | some (old, _) => match σ.alloc (.cells (old ++ new) elem) with
            | some (m, σ') => some (.slice (some ⟨m, 0, none⟩) (sLen + n) (UNK + sz), σ'.oblige (B && B2 && !Nat.ble UNK sCap && !Nat.ble (sLen + n) sCap))
            | none => none
          | none => none
      | _, _, _, _ => none
    else none
  | _, _, _ => none

def symOp (P : Program) (ρ : Operand → Value) (o : Oper) (σ : AHeap) : Option (Value × AHeap) :=
  match o.op with
  | .indexAddr t x ix => symIndexAddr P t (ρ x) (ρ ix) σ
  | .load t x => symLoad P t (ρ x) σ
  | .store t x y => symStore P t (ρ x) (ρ y) σ
  | .pick c x y => symPick (ρ c) (ρ x) (ρ y) σ
  | .binOp op _ x y _ => symBin op (ρ x) (ρ y) σ
  | .makeSlice t l c => symMake P t (ρ l) (ρ c) σ
  | .call c => match c.callee, c.argTypes.toList, c.args.toList with
    | .builtin .append, [s, t], [x, y] => symAppend P s t (ρ x) (ρ y) σ
    | _, _, _ => none
  | _ => none
def absOpS (P : Program) (call : Caller) (ρ : Operand → Value) (o : Oper) (σ : AHeap) : Option (Value × AHeap) :=
  match symOp P ρ o σ with
  | some q => some q
  | none => absOp P call ρ o σ

theorem AStep.same {σ σ' τ : AHeap} (h : AStep σ σ') (s : SameH σ' τ) (ho : okObl τ → okObl σ') : AStep σ τ where
  next := by rw [s.next]; exact h.next
  lim := s.lim.trans h.lim
  hid := s.hid.trans h.hid
  gl := s.glob.trans h.gl
  keep := fun n hl hn => by rw [s.get]; exact h.keep n hl hn
  raw := fun n hn hh => by rw [s.t]; exact h.raw n hn hh
  dead := fun n hn hd => by rw [s.get]; exact h.dead n hn hd
  sm := fun hs => by rw [s.next]; exact h.sm hs
  top := fun hs n hn => by rw [s.next] at hn; rw [s.t]; exact h.top hs n hn
  obl := fun hb => h.obl (ho hb)
theorem AStep.oblige {σ σ' : AHeap} (h : AStep σ σ') (b : Bool) : AStep σ (σ'.oblige b) := h.same (.oblige σ' b) fun h => h.oblige.2

/-- The same with other hints. -/
def AHeap.hinted (σ : AHeap) (hs : List (Option Bool)) : AHeap := { σ with hints := hs }
theorem AStep.hinted (σ : AHeap) (hs : List (Option Bool)) : AStep σ { σ with hints := hs } := (AStep.refl σ).same ⟨rfl, rfl, rfl, rfl, rfl, fun h => h⟩ fun h => h

theorem loose_spec {cap : Nat} (h : loose cap = true) : UNK ≤ cap ∧ cap ≠ UNK2 ∧ cap ≠ UNK3 := by
  unfold loose at h
  simp only [Bool.and_eq_true, Nat.ble_eq, Bool.not_eq_true'] at h
  exact ⟨h.1.1, fun e => by rw [beq_of e] at h; simp at h, fun e => by rw [beq_of e] at h; simp at h⟩

theorem symIndexAddr_spec {P : Program} {t : TypeId} {x ix v : Value} {σ σ' : AHeap} (h : symIndexAddr P t x ix σ = some (v, σ')) :
    AStep σ σ' ∧ (okObl σ' → ∃ v1, absIndexAddr P t x ix = some v1 ∧ SameH σ σ' ∧ ∀ r u, VRel r v1 u → VRel r v u) := by
  unfold symIndexAddr at h
  split at h
  · rename_i a len cap k i
    cases hl : loose cap with
    | false => rw [hl, cond_false] at h; simp at h
    | true =>
      rw [hl, cond_true] at h
      split at h
      · rename_i elem hu
        obtain ⟨s, hs, e⟩ := Option.map_eq_some_iff.1 h
        simp only [Prod.mk.injEq] at e
        obtain ⟨rfl, rfl⟩ := e
        refine ⟨(AStep.refl σ).oblige _, fun ho => ?_⟩
        have hb := ho.oblige.1
        simp only [Bool.and_eq_true, decide_eq_true_eq] at hb
        obtain ⟨h0, h1⟩ := hb
        obtain ⟨j, rfl⟩ := Int.eq_ofNat_of_zero_le h0
        have h1 : Nat.blt j len = true := by simpa using h1
        refine ⟨.pointer (some ⟨a.block, a.off + j * s, none⟩), ?_, .oblige _ _, fun r u hv => ?_⟩
        · show (match Value.int k (Int.ofNat j) with | _ => _) = _
          simp only [absIndexAddr, hu, h1, cond_true, hs, Option.map_some]
        · obtain ⟨b, rfl, _, hr⟩ := hv.ptr_inv
          exact .ptr _ _ _ _ hr
      · simp at h
  · rename_i a k i
    split at h
    · rename_i len elem hu
      obtain ⟨s, hs, e⟩ := Option.map_eq_some_iff.1 h
      simp only [Prod.mk.injEq] at e
      obtain ⟨rfl, rfl⟩ := e
      refine ⟨(AStep.refl σ).oblige _, fun ho => ?_⟩
      have hb := ho.oblige.1
      simp only [Bool.and_eq_true, decide_eq_true_eq] at hb
      obtain ⟨h0, h1⟩ := hb
      obtain ⟨j, rfl⟩ := Int.eq_ofNat_of_zero_le h0
      have h1 : Nat.blt j len = true := by simpa using h1
      refine ⟨.pointer (some ⟨a.block, a.off + j * s, none⟩), ?_, .oblige _ _, fun r u hv => ?_⟩
      · show (match Value.int k (Int.ofNat j) with | _ => _) = _
        simp only [absIndexAddr, hu, h1, cond_true, hs, Option.map_some]
      · obtain ⟨b, rfl, _, hr⟩ := hv.ptr_inv
        exact .ptr _ _ _ _ hr
    · simp at h
  · simp at h

theorem symLoad_spec {P : Program} {t : TypeId} {x v : Value} {σ σ' : AHeap} (h : symLoad P t x σ = some (v, σ')) :
    AStep σ σ' ∧ (okObl σ' → SameH σ σ' ∧ ∃ a, x = .pointer (some a) ∧ loadAt P t a σ = some v) := by
  unfold symLoad at h
  split at h
  · rename_i a
    split at h
    · split at h
      · rename_i c e hg
        obtain ⟨⟨u, b⟩, hq, e⟩ := Option.map_eq_some_iff.1 h
        simp only [Prod.mk.injEq] at e
        obtain ⟨rfl, rfl⟩ := e
        refine ⟨(AStep.refl σ).oblige _, fun ho => ⟨.oblige _ _, a, rfl, ?_⟩⟩
        have hb := ho.oblige.1
        simp only [Bool.and_eq_true] at hb
        have hv := etaOf_ok hq hb.2
        have hlt : a.off < c.length := by simpa [Nat.blt_eq] using hb.1
        have hget : getL c a.off = some u := by
          rw [hv, getL_eq, List.getElem?_eq_getElem hlt]; rfl
        unfold loadAt
        rw [hg]
        simp only
        unfold etaOf at hq
        split at hq
        · rename_i k hu; rw [hu]; exact hget
        · rename_i hu; rw [hu]; exact hget
        · rename_i hu; rw [hu]; exact hget
        · simp at hq
      · simp at h
    · simp at h
  · simp at h

theorem symStore_spec {P : Program} {t : TypeId} {x y v : Value} {σ σ' : AHeap} (h : symStore P t x y σ = some (v, σ')) :
    AStep σ σ' ∧ (okObl σ' → v = undef ∧ ∃ a σ1, x = .pointer (some a) ∧ storeAt P t a y σ = some σ1 ∧ SameH σ1 σ') := by
  unfold symStore at h
  split at h
  · rename_i a
    split at h
    · split at h
      · rename_i c e hg
        split at h
        · rename_i hz
          cases hb : (scalar y && σ.may a.block) with
          | false => rw [hb, cond_false] at h; simp at h
          | true =>
            rw [hb, cond_true] at h
            simp only [Option.some.injEq, Prod.mk.injEq] at h
            obtain ⟨rfl, rfl⟩ := h
            simp only [Bool.and_eq_true] at hb
            refine ⟨(AStep.put hg hb.2).oblige _, fun ho => ⟨rfl, a, _, rfl, ?_, .oblige _ _⟩⟩
            have hlt := ho.oblige.1
            have hcells : y.cells.toList = [y] := by cases y <;> simp [scalar, Value.cells] at hb ⊢
            unfold storeAt
            rw [hg]
            simp only [hz, hcells, List.length_singleton, show Nat.beq 1 1 = true from rfl, Bool.true_and, hb.2, cond_true, setsL, hlt, hb.1, Option.map_some]
        · simp at h
      · simp at h
    · simp at h
  · simp at h

theorem symPick_spec {c x y v : Value} {σ σ' : AHeap} (h : symPick c x y σ = some (v, σ')) :
    AStep σ σ' ∧ (okObl σ' → SameH σ σ' ∧ ∃ t, c = .bool t ∧ v = bif t then x else y) := by
  unfold symPick at h
  split at h
  · rename_i t k n k' m
    simp only [Option.some.injEq, Prod.mk.injEq] at h
    obtain ⟨rfl, rfl⟩ := h
    refine ⟨(AStep.refl σ).oblige _, fun ho => ⟨.oblige _ _, t, rfl, ?_⟩⟩
    have := ho.oblige.1
    simp only [decide_eq_true_eq] at this
    subst this
    cases t <;> rfl
  · rename_i t n m
    simp only [Option.some.injEq, Prod.mk.injEq] at h
    obtain ⟨rfl, rfl⟩ := h
    refine ⟨.refl σ, fun ho => ⟨.refl _, t, rfl, ?_⟩⟩
    cases t <;> rfl
  · simp at h

theorem symBin_spec {P : Program} {op : BinOp} {t : TypeId} {X Y : Operand} {x y v : Value} {σ σ' : AHeap} (h : symBin op x y σ = some (v, σ')) :
    AStep σ σ' ∧ (okObl σ' → SameH σ σ' ∧ absBin P op t X Y x y = some v) := by
  unfold symBin at h
  split at h
  · rename_i k a yk b
    simp only [Option.some.injEq, Prod.mk.injEq] at h
    obtain ⟨rfl, rfl⟩ := h
    refine ⟨(AStep.refl σ).oblige _, fun ho => ⟨.oblige _ _, ?_⟩⟩
    have hb := ho.oblige.1
    simp only [Bool.not_eq_true', decide_eq_false_iff_not] at hb
    show pureVal P (Op.shift .shl k a yk b) = _
    simp only [Op.shift, if_neg hb]
    rfl
  · rename_i k a yk b
    simp only [Option.some.injEq, Prod.mk.injEq] at h
    obtain ⟨rfl, rfl⟩ := h
    refine ⟨(AStep.refl σ).oblige _, fun ho => ⟨.oblige _ _, ?_⟩⟩
    have hb := ho.oblige.1
    simp only [Bool.not_eq_true', decide_eq_false_iff_not] at hb
    show pureVal P (Op.shift .shr k a yk b) = _
    simp only [Op.shift, if_neg hb]
    rfl
  · rename_i k a k' b
    simp only [Option.some.injEq, Prod.mk.injEq] at h
    obtain ⟨rfl, rfl⟩ := h
    refine ⟨(AStep.refl σ).oblige _, fun ho => ⟨.oblige _ _, ?_⟩⟩
    have hb := ho.oblige.1
    simp only [Bool.and_eq_true, decide_eq_true_eq, Bool.not_eq_true', decide_eq_false_iff_not] at hb
    obtain ⟨rfl, hb⟩ := hb
    have e : binOp .quo t (.int k a) (.int k b) = Op.intDiv .quo k a b := by simp only [binOp, ne_eq, not_true, if_false]
    show pureVal P (binOp .quo t (.int k a) (.int k b)) = _
    rw [e]
    simp only [Op.intDiv, if_neg hb]
    rfl
  · rename_i k a k' b
    simp only [Option.some.injEq, Prod.mk.injEq] at h
    obtain ⟨rfl, rfl⟩ := h
    refine ⟨(AStep.refl σ).oblige _, fun ho => ⟨.oblige _ _, ?_⟩⟩
    have hb := ho.oblige.1
    simp only [Bool.and_eq_true, decide_eq_true_eq, Bool.not_eq_true', decide_eq_false_iff_not] at hb
    obtain ⟨rfl, hb⟩ := hb
    have e : binOp .rem t (.int k a) (.int k b) = Op.intDiv .rem k a b := by simp only [binOp, ne_eq, not_true, if_false]
    show pureVal P (binOp .rem t (.int k a) (.int k b)) = _
    rw [e]
    simp only [Op.intDiv, if_neg hb]
    rfl
  · simp at h

theorem symMake_spec {P : Program} {t : TypeId} {l c v : Value} {σ σ' : AHeap} (h : symMake P t l c σ = some (v, σ')) :
    AStep σ σ' ∧ (okObl σ' → ∃ v1 σ1, absMakeSlice P t l c σ = some (v1, σ1) ∧ SameH σ1 σ' ∧ ∀ r w u, WRel r σ1 w → VRel r v1 u → VRel r v u) := by
  unfold symMake at h
  split at h
  · rename_i b hs hh
    split at h
    · rename_i elem k1 l k2 c hu
      split at h
      · rename_i sz z by_ hsz hz hby
        split at h
        · rename_i n σ1 hal
          simp only [Option.some.injEq, Prod.mk.injEq] at h
          obtain ⟨rfl, rfl⟩ := h
          refine ⟨((AStep.hinted σ hs).trans (AStep.alloc hal).1).oblige _, fun ho => ?_⟩
          have hb := ho.oblige.1
          simp only [Bool.and_eq_true, decide_eq_true_eq] at hb
          obtain ⟨⟨⟨⟨⟨⟨b1, b2⟩, b3⟩, b4⟩, b5⟩, b6⟩, b7⟩ := hb
          obtain ⟨l, rfl⟩ := Int.eq_ofNat_of_zero_le b1
          obtain ⟨c, rfl⟩ := Int.eq_ofNat_of_zero_le b2
          simp only [Int.toNat_natCast] at b3 b4 b5 hal ⊢
          -- the same block, laid with the hints as they were
          have hal0 := hal
          have hal2 : ∃ σ2, σ.alloc (.cells (rep c z) elem) = some (n, σ2) ∧ SameH σ2 σ1 := by
            unfold AHeap.alloc at hal ⊢
            have e : (Nat.ble σ.next MAXN && !hidden σ.hid σ.next) = (Nat.ble ({ σ with hints := hs } : AHeap).next MAXN && !hidden ({ σ with hints := hs } : AHeap).hid ({ σ with hints := hs } : AHeap).next) := rfl
            rw [e]
            cases hb : (Nat.ble ({ σ with hints := hs } : AHeap).next MAXN && !hidden ({ σ with hints := hs } : AHeap).hid ({ σ with hints := hs } : AHeap).next) with
            | false => rw [hb, cond_false] at hal; simp at hal
            | true =>
              rw [hb, cond_true] at hal
              simp only [Option.some.injEq, Prod.mk.injEq] at hal
              obtain ⟨rfl, rfl⟩ := hal
              exact ⟨_, rfl, ⟨rfl, rfl, rfl, rfl, rfl, fun h => h⟩⟩
          obtain ⟨σ2, hσ2, same⟩ := hal2
          refine ⟨.slice (some ⟨n, 0, none⟩) l c, σ2, ?_, ⟨same.t, same.next, same.lim, same.hid, same.glob, fun h => same.obl h.oblige.2⟩, fun r w u hw hv => ?_⟩
          · have hbb : (Nat.ble l c && Nat.ble c 1099511627776 && Nat.ble (by_ * c) 1099511627776 && Nat.beq z.length sz) = true := by simp only [b3, b4, b5, b6, Bool.and_self]
            show absMakeSlice P t (.int k1 (Int.ofNat l)) (.int k2 (Int.ofNat c)) σ = _
            simp only [absMakeSlice, hu, hsz, hz, hby, hbb, cond_true, hσ2]
          · have hUc : c < UNK := by
              have h1 : c ≤ 1099511627776 := by simpa [Nat.ble_eq] using b4
              have : (1099511627776 : Nat) < UNK := by decide
              omega
            obtain ⟨b, o', c', rfl, _, hr, hc⟩ := hv.slice_inv (lt3 hUc _)
            rcases hc with ⟨e1, rfl, _⟩ | ⟨_, e2⟩ | ⟨k, _, _, e2, _⟩
            · obtain rfl : o' = 0 := e1
              obtain ⟨_, _, _, _, _, _, e7, _, _⟩ := AHeap.alloc_spec hσ2
              obtain ⟨b', ob, hb', hwb, hor⟩ := hw.obj n _ e7
              obtain rfl := hw.fn _ _ _ hr hb'
              cases hor with
              | cells cc cc' e fz hlen hf hbs hcs =>
                have hz' : z.length = sz := Nat.eq_of_beq_eq_true b6
                refine .sliceU _ _ _ _ _ _ hr (by simpa [Nat.blt_eq] using b7) (by simpa [Nat.ble_eq] using b3) ?_
                rw [hbs]
                rw [rep_length, hz'] at hlen
                omega
            · have : UNK2 = UNK + UNK := by decide
              omega
            · omega
        · simp at h
      · simp at h
    · simp at h
  · simp at h

theorem takeN_of_le : ∀ {l : List Value} {n : Nat}, n ≤ l.length → takeN l n = some (l.take n)
  | l, 0, _ => by cases l <;> simp [takeN]
  | [], n + 1, h => by simp at h
  | a :: l, n + 1, h => by simp [takeN, takeN_of_le (show n ≤ l.length by simpa using h)]
theorem symCells_spec {P : Program} {elem : TypeId} {x : Value} {σ : AHeap} {l : List Value} {n : Nat} {B : Bool} (h : symCells P elem x σ = some (l, n, B)) (hB : B = true) : absCells P elem x σ = some (l, n) := by
  subst hB
  have hc : ∀ {x : Value}, (absCells P elem x σ).map (fun q => (q.1, q.2, true)) = some (l, n, true) → absCells P elem x σ = some (l, n) := by
    intro x h
    obtain ⟨⟨l1, n1⟩, h1, e⟩ := Option.map_eq_some_iff.1 h
    simp only [Prod.mk.injEq] at e
    obtain ⟨rfl, rfl, _⟩ := e
    exact h1
  unfold symCells at h
  split at h
  · rename_i a m cap
    cases hl : loose cap with
    | false => rw [hl, cond_false] at h; exact hc h
    | true =>
      rw [hl, cond_true] at h
      split at h
      · rename_i c e s hg hs
        simp only [Option.some.injEq, Prod.mk.injEq] at h
        obtain ⟨rfl, rfl, hb⟩ := h
        have hle : m * s ≤ (c.drop a.off).length := by simpa [Nat.ble_eq] using hb
        have hz : (Nat.beq m 0 && Nat.beq cap UNK3) = false := by rw [beq_ne (loose_spec hl).2.2, Bool.and_false]
        simp only [absCells, hz, cond_false, hg, hs, takeN_of_le hle, Option.map_some]
      · simp at h
  · exact hc h

theorem symAppend_spec {P : Program} {sT xT : TypeId} {s x v : Value} {σ σ' : AHeap} (h : symAppend P sT xT s x σ = some (v, σ')) :
    AStep σ σ' ∧ (okObl σ' → ∃ σ1, absAppend P sT xT s x σ = some (v, σ1) ∧ SameH σ1 σ') := by
  unfold symAppend at h
  split at h
  · rename_i elem xd base sLen sCap hsu hxu
    cases hl : (looseV (.slice base sLen sCap) || looseV x) with
    | false => rw [hl, cond_false] at h; simp at h
    | true =>
      rw [hl, cond_true] at h
      split at h
      · rename_i sz by_ new n B z hsz hby hcx hz
        simp only at h
        cases hs : looseV (.slice base sLen sCap) with
        | true =>
          rw [hs, cond_true] at h
          split at h
          · rename_i a
            split at h
            · rename_i c e hg
              cases hb : (Nat.beq sCap (UNK + sz) && Nat.beq a.off 0 && σ.may a.block && Nat.beq e elem) with
              | false => rw [hb, cond_false] at h; simp at h
              | true =>
                rw [hb, cond_true] at h
                split at h
                · rename_i m σ1 hal
                  simp only [Option.some.injEq, Prod.mk.injEq] at h
                  obtain ⟨rfl, rfl⟩ := h
                  have hb0 := hb
                  simp only [Bool.and_eq_true] at hb
                  refine ⟨((AStep.put hg hb.1.2).trans (AStep.alloc hal).1).oblige _, fun ho => ?_⟩
                  have hob := ho.oblige.1
                  simp only [Bool.and_eq_true] at hob
                  obtain ⟨⟨rfl, hB2⟩, hlen⟩ := hob
                  refine ⟨σ1, ?_, .oblige _ _⟩
                  have hU : Nat.ble UNK sCap = true := by
                    have := (loose_spec (cap := sCap) hs).1
                    simpa [Nat.ble_eq] using this
                  have hB2' : (!isIntT xd && Nat.beq z.length sz && Nat.blt sz UNK && Nat.ble ((2 * (sLen + n) + 192) * by_) 140737488355328 && Nat.ble (sLen + n) 1152921504606846976 && new.all scalar) = true := by
                    simp only [Bool.and_eq_true]; exact hB2
                  have hall : (Nat.beq sCap (UNK + sz) && Nat.beq a.off 0 && Nat.beq c.length (sLen * sz) && σ.may a.block && Nat.beq e elem) = true := by
                    simp only [Bool.and_eq_true]; exact ⟨⟨⟨hb.1.1, hlen⟩, hb.1.2⟩, hb.2⟩
                  unfold absAppend
                  rw [hsu, hxu]
                  simp only [hsz, hby, symCells_spec hcx rfl, hz, hB2', cond_true]
                  unfold absApp
                  simp only [hU, cond_true, hg, hall, hal]
                · simp at h
            · simp at h
          · simp at h
        | false =>
          rw [hs, cond_false] at h
          split at h
          · rename_i old oldn hold
            split at h
            · rename_i m σ1 hal
              simp only [Option.some.injEq, Prod.mk.injEq] at h
              obtain ⟨rfl, rfl⟩ := h
              refine ⟨((AStep.alloc hal).1).oblige _, fun ho => ?_⟩
              have hob := ho.oblige.1
              simp only [Bool.and_eq_true, Bool.not_eq_true'] at hob
              obtain ⟨⟨⟨rfl, hB2⟩, hU⟩, hgt⟩ := hob
              refine ⟨σ1, ?_, .oblige _ _⟩
              have hB2' : (!isIntT xd && Nat.beq z.length sz && Nat.blt sz UNK && Nat.ble ((2 * (sLen + n) + 192) * by_) 140737488355328 && Nat.ble (sLen + n) 1152921504606846976 && new.all scalar) = true := by
                simp only [Bool.and_eq_true, Bool.not_eq_true']; exact hB2
              unfold absAppend
              rw [hsu, hxu]
              simp only [hsz, hby, symCells_spec hcx rfl, hz, hB2', cond_true]
              unfold absApp
              simp only [hU, cond_false, hgt, hold, hal]
            · simp at h
          · simp at h
      · simp at h
  · simp at h

/-- What a noted operation comes to is what the plain one comes to. -/
theorem symOp_spec {P : Program} {call : Caller} {ρ : Operand → Value} {o : Oper} {v : Value} {σ σ' : AHeap} (h : symOp P ρ o σ = some (v, σ')) :
    AStep σ σ' ∧ (okObl σ' → ∃ v1 σ1, absOp P call ρ o σ = some (v1, σ1) ∧ SameH σ1 σ' ∧ ∀ r w u, WRel r σ1 w → VRel r v1 u → VRel r v u) := by
  unfold symOp at h
  split at h
  · rename_i t x ix ho
    obtain ⟨h1, h2⟩ := symIndexAddr_spec h
    refine ⟨h1, fun hob => ?_⟩
    obtain ⟨v1, k1, k2, k3⟩ := h2 hob
    exact ⟨v1, σ, by simp only [absOp, ho, k1, Option.map_some], k2, fun r w u _ hv => k3 r u hv⟩
  · rename_i t x ho
    obtain ⟨h1, h2⟩ := symLoad_spec h
    refine ⟨h1, fun hob => ?_⟩
    obtain ⟨k1, a, k2, k3⟩ := h2 hob
    exact ⟨v, σ, by simp only [absOp, ho, k2, k3, Option.map_some], k1, fun r w u _ hv => hv⟩
  · rename_i t x y ho
    obtain ⟨h1, h2⟩ := symStore_spec h
    refine ⟨h1, fun hob => ?_⟩
    obtain ⟨rfl, a, σ1, k2, k3, k4⟩ := h2 hob
    exact ⟨undef, σ1, by simp only [absOp, ho, k2, k3, Option.map_some], k4, fun r w u _ hv => hv⟩
  · rename_i c x y ho
    obtain ⟨h1, h2⟩ := symPick_spec h
    refine ⟨h1, fun hob => ?_⟩
    obtain ⟨k1, t, k2, k3⟩ := h2 hob
    exact ⟨v, σ, by simp only [absOp, ho, k2, k3], k1, fun r w u _ hv => hv⟩
  · rename_i op t x y yt ho
    obtain ⟨h1, h2⟩ := symBin_spec (P := P) (t := t) (X := x) (Y := y) h
    refine ⟨h1, fun hob => ?_⟩
    obtain ⟨k1, k2⟩ := h2 hob
    exact ⟨v, σ, by simp only [absOp, ho, k2, Option.map_some], k1, fun r w u _ hv => hv⟩
  · rename_i t l c ho
    obtain ⟨h1, h2⟩ := symMake_spec h
    refine ⟨h1, fun hob => ?_⟩
    obtain ⟨v1, σ1, k1, k2, k3⟩ := h2 hob
    exact ⟨v1, σ1, by simp only [absOp, ho, k1], k2, k3⟩
  · rename_i c ho
    split at h
    · rename_i s t x y hcal hts hxs
      obtain ⟨h1, h2⟩ := symAppend_spec h
      refine ⟨h1, fun hob => ?_⟩
      obtain ⟨σ1, k1, k2⟩ := h2 hob
      exact ⟨v, σ1, by simp only [absOp, ho, absCallOp, hcal, hts, hxs, List.map_cons, List.map_nil, absBuiltin, k1], k2, fun r w u _ hv => hv⟩
    · simp at h
  · simp at h

theorem opS_astep {P : Program} {call : Caller} {σ σ' : AHeap} {ρ : Operand → Value} {o : Oper} {v : Value} (hc : CallA call) (ha : absOpS P call ρ o σ = some (v, σ')) : AStep σ σ' := by
  unfold absOpS at ha
  split at ha
  · rename_i q hq
    obtain rfl := Option.some.inj ha
    exact (symOp_spec (call := call) hq).1
  · exact op_astep hc ha

theorem opS_ok {P : Program} {call : Caller} {r : Ren} {σ σ' : AHeap} {w : World} {ρ : Operand → Value} {a : Act} {o : Oper} {v : Value} (C : Ctx P call r σ w ρ a) (ha : absOpS P call ρ o σ = some (v, σ')) (ho : okObl σ') : Goal P o r σ w a v σ' := by
  unfold absOpS at ha
  split at ha
  · rename_i q hq
    obtain rfl := Option.some.inj ha
    obtain ⟨v1, σ1, k1, k2, k3⟩ := (symOp_spec (call := call) hq).2 ho
    intro K Q hk
    refine op_ok C k1 (k2.obl ho) K Q fun r' w' v' hs hv => hk r' w' v' (hs.same k2) (k3 r' w' v' hs.rel hv)
  · exact op_ok C ha ho
end Go.Abs
