/- The law of the sums of bytes: its run, where both sums are alike. -/
import Derived.Test.YtcadfopmadjanaaCrcSums1
import Derived.Test.YtcadfopmadjanaaA24
namespace Go.Proofs.Ytcadfopmadjanaa.CrcSums
open Go.Abs Go.RowKit CrcRef CrcOn
set_option linter.unusedVariables false
set_option linter.unusedSimpArgs false

abbrev OO (g h : Int → List Int → Int) : Oracle := oras [(16, rowOra [none, some 1] (wordRow g)), (15, rowOra [none, some 1] (wordRow h)), (17, plainOra aliveOra)]
def cut (off n : Nat) (vs : List Value) : List Value := ((rowCells off vs).drop off).take (n * 1)
def eqAt (g h : Int → List Int → Int) (s : Int) (l : List Value) : Bool := g s (l.map intV) == h s (l.map intV)
def fits (off n : Nat) (vs : List Value) : Bool := (Nat.ble (off + n * 1) (rowCells off vs).length && (cut off n vs).all (noPtr 8)) && true && ((cut off n vs).all (isIntB .u8) && Nat.blt n 1000000)
def h8 : List (Option Bool) := [some false, some true, some true, some true, some true, some true, some true, some true, some true]
theorem law_runs (g h : Int → List Int → Int) (s : Int) (off n e : Nat) (vs : List Value) :
    runC Try.prog (OO g h) 5 3 h8 [rowV 0 off n 1, .int .u16 s] (heapOf 1 [some (.cells (rowCells off vs) e)]) =
    some (.bool (bif (bif eqAt g h 65535 (cut off n vs) then eqAt g h s (cut off n vs) else false) then true else false),
      [(bif eqAt g h 65535 (cut off n vs) then eqAt g h s (cut off n vs) else false) == true, eqAt g h 65535 (cut off n vs) == true, fits off n vs, eqAt g h 65535 (cut off n vs) == true, eqAt g h 65535 (cut off n vs) == true, eqAt g h 65535 (cut off n vs) == true,
        fits off n vs, eqAt g h 65535 (cut off n vs) == true, eqAt g h 65535 (cut off n vs) == true, eqAt g h 65535 (cut off n vs) == true, fits off n vs, fits off n vs, !decide ((300 : Int) < (n : Int))].all id) := by kernel_rfl
theorem law_runs0 (g h : Int → List Int → Int) (s : Int) :
    runC Try.prog (OO g h) 5 3 h8 [emptyV, .int .u16 s] (heapOf 1 [none]) =
    some (.bool (bif (bif eqAt g h 65535 [] then eqAt g h s [] else false) then true else false),
      [(bif eqAt g h 65535 [] then eqAt g h s [] else false) == true, eqAt g h 65535 [] == true, eqAt g h 65535 [] == true, eqAt g h 65535 [] == true, eqAt g h 65535 [] == true,
        eqAt g h 65535 [] == true, eqAt g h 65535 [] == true, eqAt g h 65535 [] == true].all id) := by kernel_rfl
theorem law_long (g h : Int → List Int → Int) (s : Int) (off n e : Nat) (vs : List Value) :
    runC Try.prog (OO g h) 5 3 [some true] [rowV 0 off n 1, .int .u16 s] (heapOf 1 [some (.cells (rowCells off vs) e)]) = some (.bool true, [decide ((300 : Int) < (n : Int))].all id) := by kernel_rfl

theorem cut_eq (off : Nat) (zs : List Int) : cut off zs.length (zs.map (Value.int .u8)) = zs.map (Value.int .u8) := by
  unfold cut
  have := rowCells_drop off 0 (zs.map (Value.int .u8))
  rw [Nat.add_zero] at this
  rw [this, List.drop_zero, Nat.mul_one, List.take_of_length_le (by simp)]
theorem intV_map (zs : List Int) : (zs.map (Value.int .u8)).map intV = zs := by
  rw [List.map_map]
  have : (intV ∘ Value.int .u8) = id := rfl
  rw [this, List.map_id]
theorem fits_eq (off : Nat) (zs : List Int) (h : zs.length < 1000000) : fits off zs.length (zs.map (Value.int .u8)) = true := by
  unfold fits
  rw [cut_eq]
  have h1 : (zs.map (Value.int .u8)).all (noPtr 8) = true := by rw [List.all_eq_true]; intro v hv; obtain ⟨z, _, rfl⟩ := List.mem_map.1 hv; rfl
  have h2 : (zs.map (Value.int .u8)).all (isIntB .u8) = true := by rw [List.all_eq_true]; intro v hv; obtain ⟨z, _, rfl⟩ := List.mem_map.1 hv; rfl
  rw [h1, h2]
  simp [rowCells_length, Nat.blt_eq, h]

/-- The law, over sums that are alike. -/
theorem law_calls {g h : Int → List Int → Int} (ho : OraOK Try.prog (OO g h)) (zs : List Int) (s : Int) (h1 : g 65535 zs = h 65535 zs) (h2 : g s zs = h s zs) (w : World) (v : Value) (hv : IsRowV w 1 zs.length (zs.map (Value.int .u8)) v) :
    Calls Try.prog 3 #[v, .int .u16 s] w fun e w' => e = .returned (.bool true) ∧ Below w.heap.size w w' := by
  by_cases hl : zs.length = 0
  · obtain rfl := List.length_eq_zero_iff.1 hl
    have e1 : eqAt g h 65535 [] = true := by simp [eqAt, h1]
    have e2 : eqAt g h s [] = true := by simp [eqAt, h2]
    have hr := law_runs0 g h s
    rw [e1, e2] at hr
    exact runC_calls ho noNum mixed hr rfl rfl (relE 1 (by decide) w) (.cons (hv.empty _) (.cons (VRel.refl_of_noPtr _ 8 _ rfl) (.nil _))) (fun _ _ h => h.elim)
  · obtain ⟨off, e, b, hat, hr⟩ := hv.full (by omega) (by decide)
    have hw := arg_rel (L := [⟨rowCells off (zs.map (Value.int .u8)), e, b⟩]) (by simp) (by simpa using hat)
    have hargs : LRel (argRen w [⟨rowCells off (zs.map (Value.int .u8)), e, b⟩]) [rowV 0 off zs.length 1, .int .u16 s] #[v, .int .u16 s].toList := .cons (hr _ 0 rfl) (.cons (VRel.refl_of_noPtr _ 8 _ rfl) (.nil _))
    have hd : ∀ n b', (argRen w [⟨rowCells off (zs.map (Value.int .u8)), e, b⟩]).rel n b' → (argHeap [⟨rowCells off (zs.map (Value.int .u8)), e, b⟩]).get n = none ∨ n < (argHeap [⟨rowCells off (zs.map (Value.int .u8)), e, b⟩]).lim := by
      rintro n b' ⟨q, hq, rfl⟩
      exact .inr (List.getElem?_eq_some_iff.1 hq).1
    by_cases hn : zs.length ≤ 300
    · have e1 : eqAt g h 65535 (zs.map (Value.int .u8)) = true := by simp only [eqAt, intV_map, h1, beq_self_eq_true]
      have e2 : eqAt g h s (zs.map (Value.int .u8)) = true := by simp only [eqAt, intV_map, h2, beq_self_eq_true]
      have hr := law_runs g h s off zs.length e (zs.map (Value.int .u8))
      rw [fits_eq off zs (by omega), cut_eq, e1, e2] at hr
      refine runC_calls ho noNum mixed hr ?_ rfl hw hargs hd
      simp; omega
    · refine runC_calls ho noNum mixed (law_long g h s off zs.length e (zs.map (Value.int .u8))) ?_ rfl hw hargs hd
      simp; omega
end Go.Proofs.Ytcadfopmadjanaa.CrcSums
