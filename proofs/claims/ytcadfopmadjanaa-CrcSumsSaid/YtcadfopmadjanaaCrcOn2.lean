/- The sum of bytes of package crc: 'On' over a row of the caller; the document's 'On' over one. -/
import Derived.Test.YtcadfopmadjanaaCrcOn1
namespace Go.Proofs.Ytcadfopmadjanaa.CrcOn
open Go.Abs Go.RowKit CrcRef
set_option linter.unusedVariables false
set_option linter.unusedSimpArgs false

noncomputable abbrev obody : Code := bodyOf Try.f16
noncomputable abbrev oloopC : Code := Code.part [0] (restC 1 obody)
noncomputable abbrev oloopB : Code := Code.part [1, 0, 0] oloopC
noncomputable abbrev fo (s : Int) (off n cap : Nat) (x : Int) : List Value := frame 18 [(0, .int .u16 s), (7, .slice (some ⟨0, off, none⟩) n cap), (8, .int .i64 n), (9, .int .i64 x)]
section
variable (s x : Int) (off n cap e : Nat) (q : Option AObj) (vs : List Value)
theorem ostart : runF Try.prog cl2 1000 (itemsC 1 obody) (keepL 18 [0, 1]) [] ([.int .u16 s, .slice (some ⟨0, off, none⟩) n cap] ++ List.replicate (18 - 2) undef) (heapOf 1 [q]) =
    some (frame 18 [(0, .int .u16 s), (1, .slice (some ⟨0, off, none⟩) n cap)], heapOf 1 [q], true) := by kernel_rfl
theorem oinit : runF Try.prog cl2 1000 (itemsC 1 oloopC) (keepL 18 [0, 7, 8, 9]) [] (frame 18 [(0, .int .u16 s), (1, .slice (some ⟨0, off, none⟩) n cap)]) (heapOf 1 [q]) = some (fo s off n cap 0, heapOf 1 [q], true) := by kernel_rfl
theorem oout : runM Try.prog cl2 1000 oloopB (keepL 18 [0]) [some false] (fo s off n cap x) (heapOf 1 [q]) = some (.exit 0, frame 18 [(0, .int .u16 s)], heapOf 1 [q], [!decide (x < n)].all id) := by kernel_rfl
theorem oin : runM Try.prog cl2 1000 oloopB (keepL 18 [0, 7, 8, 9]) [some true] (fo s off n (UNK + 1) x) (heapOf 1 [some (.cells (rowCells off vs) e)]) =
    some (.normal, fo (crcStep s (intV (cellAt off vs x))) off n (UNK + 1) (IntKind.i64.wrap (x + 1)), heapOf 1 [some (.cells (rowCells off vs) e)],
      [Nat.blt (off + x.toNat * 1) (rowCells off vs).length && isIntB IntKind.u8 (cellAt off vs x), decide (0 ≤ x) && Nat.blt x.toNat n, decide (x < n)].all id) := by kernel_rfl
theorem oend : runM Try.prog cl2 1000 (restC 2 obody) (keepL 18 [4]) [] (frame 18 [(0, .int .u16 s)]) (heapOf 1 [q]) = some (.ret, frame 18 [(4, .int .u16 s)], heapOf 1 [q], true) := by kernel_rfl
end

def crcOn : Int → List Int → Int
  | s, [] => s
  | s, z :: l => crcOn (crcStep s z) l

theorem oloop (off e : Nat) (zs : List Int) (hz : zs.length < 1000000) (s0 : Int) :
    Shows Try.prog oloopC (frame 18 [(0, .int .u16 s0), (1, rowV 0 off zs.length 1)]) (heapOf 1 [some (.cells (rowCells off (zs.map (Value.int .u8))) e)])
      (fun o t s => o = .normal ∧ t = frame 18 [(0, .int .u16 (crcOn s0 zs))] ∧ s = heapOf 1 [some (.cells (rowCells off (zs.map (Value.int .u8))) e)]) := by
  refine Shows.first good2 1 (oinit s0 off zs.length (UNK + 1) _) rfl ?_
  show Shows Try.prog (.block 0 (.loop oloopB)) _ _ _
  refine Shows.block (R1 := fun o t s => o = .exit 0 ∧ t = frame 18 [(0, .int .u16 (crcOn s0 zs))] ∧ s = heapOf 1 [some (.cells (rowCells off (zs.map (Value.int .u8))) e)]) ?_ (fun t s h => ⟨rfl, h.2⟩) (fun o t s h hne => absurd h.1 hne)
  refine Shows.loop (fun m τ σ => ∃ (k : Nat) (x s : Int), m = zs.length - k ∧ x = (k : Int) ∧ k ≤ zs.length ∧ crcOn s (zs.drop k) = crcOn s0 zs ∧ τ = fo s off zs.length (UNK + 1) x ∧ σ = heapOf 1 [some (.cells (rowCells off (zs.map (Value.int .u8))) e)]) ?_
    (m := zs.length) ⟨0, 0, s0, by omega, rfl, by omega, by simp, rfl, rfl⟩
  rintro m τ σ ⟨k, x, s, rfl, rfl, hk, hs, rfl, rfl⟩
  by_cases hlt : k < zs.length
  · have hcell := cellAt_eq off zs k hlt
    refine (Shows.run good2 (oin s k off zs.length e _) (by rw [hcell]; simp [isIntB, rowCells_length, Nat.blt_eq]; omega)).mono ?_
    rintro o t σ ⟨rfl, rfl, rfl⟩
    refine .inl ⟨rfl, zs.length - (k + 1), by omega, k + 1, _, _, rfl, ?_, by omega, ?_, rfl, rfl⟩
    · rw [wrap_i64 _ (by omega) (by omega)]; simp
    · rw [← hs, List.drop_eq_getElem_cons hlt, hcell]; rfl
  · refine (Shows.run good2 (oout s k off zs.length (UNK + 1) _) (by simp; omega)).mono ?_
    rintro o t σ ⟨rfl, rfl, rfl⟩
    have : k = zs.length := by omega
    subst this
    rw [List.drop_length] at hs
    exact .inr ⟨by simp, rfl, by rw [← hs]; rfl, rfl⟩

theorem on_shows (off e b : Nat) (zs : List Int) (hz : zs.length < 1000000) (s : Int) :
    Shows Try.prog obody ([.int .u16 s, rowV 0 off zs.length 1] ++ List.replicate (18 - 2) undef) (argHeap [⟨rowCells off (zs.map (Value.int .u8)), e, b⟩]) (EndsIn Try.prog Try.f16 (.int .u16 (crcOn s zs))) := by
  refine Shows.first good2 1 (ostart s off zs.length (UNK + 1) (some (.cells (rowCells off (zs.map (Value.int .u8))) e))) rfl ?_
  show Shows Try.prog (.seq oloopC (restC 2 obody)) _ _ _
  refine Shows.seq (oloop off e zs hz s) ?_ (fun o t s h hne => absurd h.1 hne)
  rintro t σ ⟨_, rfl, rfl⟩
  refine (Shows.run good2 (oend _ _) rfl).mono ?_
  rintro o t σ ⟨rfl, rfl, rfl⟩
  exact ⟨.inr rfl, [_], rfl, rfl⟩
theorem on_shows0 (s : Int) :
    Shows Try.prog obody ([.int .u16 s, emptyV] ++ List.replicate (18 - 2) undef) (heapOf 1 [none]) (EndsIn Try.prog Try.f16 (.int .u16 s)) := by
  refine Shows.first good2 1 (ostart s 0 0 UNK3 none) rfl ?_
  show Shows Try.prog (.seq oloopC (restC 2 obody)) _ _ _
  refine Shows.seq (R1 := fun o t σ => o = .normal ∧ t = frame 18 [(0, .int .u16 s)] ∧ σ = heapOf 1 [none]) ?_ ?_ (fun o t s h hne => absurd h.1 hne)
  · refine Shows.first good2 1 (oinit s 0 0 UNK3 none) rfl ?_
    show Shows Try.prog (.block 0 (.loop oloopB)) _ _ _
    refine Shows.block (R1 := fun o t σ => o = .exit 0 ∧ t = frame 18 [(0, .int .u16 s)] ∧ σ = heapOf 1 [none]) ?_ (fun t s h => ⟨rfl, h.2⟩) (fun o t s h hne => absurd h.1 hne)
    refine Shows.loop (fun m τ σ => τ = fo s 0 0 UNK3 0 ∧ σ = heapOf 1 [none]) ?_ (m := 0) ⟨rfl, rfl⟩
    rintro m τ σ ⟨rfl, rfl⟩
    refine (Shows.run good2 (oout s 0 0 0 UNK3 none) (by simp)).mono ?_
    rintro o t σ ⟨rfl, rfl, rfl⟩
    exact .inr ⟨by simp, rfl, rfl, rfl⟩
  · rintro t σ ⟨_, rfl, rfl⟩
    refine (Shows.run good2 (oend _ _) rfl).mono ?_
    rintro o t σ ⟨rfl, rfl, rfl⟩
    exact ⟨.inr rfl, [_], rfl, rfl⟩

/-- A function of a word and a row of bytes. -/
theorem word_row {f : FuncId} {fn : Func} {c : Code} (hf : Try.prog.funcs[f]? = some fn) (hb : fn.body = some c) (hn : fn.ntmps - 2 = fn.ntmps - 2) {g : Int → List Int → Int}
    (h1 : ∀ (off e b : Nat) (zs : List Int), zs.length < 1000000 → ∀ s, Shows Try.prog c ([.int .u16 s, rowV 0 off zs.length 1] ++ List.replicate (fn.ntmps - 2) undef) (argHeap [⟨rowCells off (zs.map (Value.int .u8)), e, b⟩]) (EndsIn Try.prog fn (.int .u16 (g s zs))))
    (h0 : ∀ s, Shows Try.prog c ([.int .u16 s, emptyV] ++ List.replicate (fn.ntmps - 2) undef) (heapOf 1 [none]) (EndsIn Try.prog fn (.int .u16 (g s []))))
    (s : Int) (zs : List Int) (hz : zs.length < 1000000) (w : World) (v : Value) (hv : IsRowV w 1 zs.length (zs.map (Value.int .u8)) v) :
    Calls Try.prog f #[.int .u16 s, v] w fun e w' => e = .returned (.int .u16 (g s zs)) ∧ Below w.heap.size w w' := by
  by_cases hl : zs.length = 0
  · obtain rfl := List.length_eq_zero_iff.1 hl
    exact Shows.plain hf hb rfl (h0 s) (relE 1 (by decide) w) (.cons (VRel.refl_of_noPtr _ 8 _ rfl) (.cons (hv.empty _) (.nil _))) (fun _ _ h => h.elim)
  · obtain ⟨off, e, b, hat, hr⟩ := hv.full (by omega) (by decide)
    refine Shows.plain hf hb rfl (h1 off e b zs hz s) (arg_rel (L := [⟨rowCells off (zs.map (Value.int .u8)), e, b⟩]) (by simp) (by simpa using hat)) (.cons (VRel.refl_of_noPtr _ 8 _ rfl) (.cons (hr _ 0 rfl) (.nil _))) ?_
    rintro n b' ⟨q, hq, rfl⟩
    exact .inr (List.getElem?_eq_some_iff.1 hq).1

theorem on_calls (s : Int) (zs : List Int) (hz : zs.length < 1000000) (w : World) (v : Value) (hv : IsRowV w 1 zs.length (zs.map (Value.int .u8)) v) :
    Calls Try.prog 16 #[.int .u16 s, v] w fun e w' => e = .returned (.int .u16 (crcOn s zs)) ∧ Below w.heap.size w w' :=
  word_row (fn := Try.f16) (c := obody) Try.func16 rfl rfl (fun off e b zs hz s => on_shows off e b zs hz s) (fun s => on_shows0 s) s zs hz w v hv
theorem refOn_calls (s : Int) (zs : List Int) (hz : zs.length < 1000000) (w : World) (v : Value) (hv : IsRowV w 1 zs.length (zs.map (Value.int .u8)) v) :
    Calls Try.prog 15 #[.int .u16 s, v] w fun e w' => e = .returned (.int .u16 (refOn s zs)) ∧ Below w.heap.size w w' :=
  word_row (fn := Try.f15) (c := CrcRef.body) Try.func15 rfl rfl (fun off e b zs hz s => CrcRef.on_shows off e b zs hz s) (fun s => CrcRef.on_shows0 s) s zs hz w v hv
end Go.Proofs.Ytcadfopmadjanaa.CrcOn
