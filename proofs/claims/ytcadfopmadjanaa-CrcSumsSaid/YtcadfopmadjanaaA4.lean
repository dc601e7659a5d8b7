/- A4: more operations of the abstract machine: addresses, slices, parts of values, new blocks. General over the program. -/
import Derived.Test.YtcadfopmadjanaaA3
namespace Go.Abs
set_option linter.unusedVariables false
set_option linter.unusedSimpArgs false

/-! ### Addresses -/
def absFieldAddr (P : Program) (s : TypeId) (x : Value) (f : Nat) : Option Value :=
  match P.underlying s, x with
  | some (.struct fs), .pointer (some a) => match fs[f]? with
    | some fd => match size P fd.type with
      | some (_ + 1) => some (.pointer (some ⟨a.block, a.off + fd.offset, a.spot⟩))
      | _ => none
    | none => none
  | _, _ => none
theorem fieldAddr_ok {P : Program} {r : Ren} {s : TypeId} {x x' v : Value} {f : Nat} (hx : VRel r x x') (h : absFieldAddr P s x f = some v) (w : World) :
    ∃ v', (Instr.fieldAt s x' f).run P w = .ok v' w ∧ VRel r v v' := by
  unfold absFieldAddr at h
  split at h
  · rename_i fs a hu
    obtain ⟨b, rfl, ha, hr⟩ := hx.ptr_inv
    split at h
    · rename_i fd hfd
      split at h
      · rename_i k hk
        obtain rfl := Option.some.inj h
        refine ⟨.pointer (some ⟨b, a.off + fd.offset, none⟩), ?_, .ptr _ _ _ _ hr⟩
        simp [Instr.fieldAt, run_underlying hu, hfd, Instr.sureAddr, fieldPlace, run_size hk, add_none]
      · simp at h
    · simp at h
  · simp at h

def absIndexAddr (P : Program) (t : TypeId) (x ix : Value) : Option Value :=
  match ix with
  | .int _ (.ofNat i) => match P.underlying t, x with
    | some (.array len elem), .pointer (some a) => bif Nat.blt i len then (size P elem).map fun s => .pointer (some ⟨a.block, a.off + i * s, none⟩) else none
    | some (.slice elem), .slice (some a) len _ => bif Nat.blt i len then (size P elem).map fun s => .pointer (some ⟨a.block, a.off + i * s, none⟩) else none
    | _, _ => none
  | _ => none
theorem indexAddr_ok {P : Program} {r : Ren} {t : TypeId} {x x' ix ix' v : Value} (hx : VRel r x x') (hi : VRel r ix ix') (h : absIndexAddr P t x ix = some v) (w : World) :
    ∃ v', (Instr.indexAt t x' ix').run P w = .ok v' w ∧ VRel r v v' := by
  unfold absIndexAddr at h
  split at h
  · rename_i k i
    obtain rfl := hi.int_inv
    split at h
    · rename_i len elem a hu
      obtain ⟨b, rfl, ha, hr⟩ := hx.ptr_inv
      by_cases hb : Nat.blt i len = true
      · rw [hb, cond_true] at h
        obtain ⟨s, hs, rfl⟩ := Option.map_eq_some_iff.1 h
        refine ⟨.pointer (some ⟨b, a.off + i * s, none⟩), ?_, .ptr _ _ _ _ hr⟩
        have hlt : i < len := by simpa [Nat.blt_eq] using hb
        simp [Instr.indexAt, run_underlying hu, asIntOf, Instr.sureAddr, hlt, run_size hs, add_none]
      · simp only [Bool.not_eq_true] at hb; rw [hb, cond_false] at h; simp at h
    · rename_i elem a len cap hu
      by_cases hb : Nat.blt i len = true
      · obtain ⟨b, o', c', rfl, ha, hr, hcs⟩ := hx.slice_inv (by have : i < len := by simpa [Nat.blt_eq] using hb
                                                                 omega)
        rw [hb, cond_true] at h
        obtain ⟨s, hs, rfl⟩ := Option.map_eq_some_iff.1 h
        have hlt0 : i < len := by simpa [Nat.blt_eq] using hb
        obtain rfl : o' = a.off := by
          rcases hcs with h1 | h1 | ⟨k, _, h1, _⟩
          · exact h1.1
          · omega
          · exact h1
        refine ⟨.pointer (some ⟨b, a.off + i * s, none⟩), ?_, .ptr _ _ _ _ hr⟩
        have hlt : i < len := by simpa [Nat.blt_eq] using hb
        simp [Instr.indexAt, run_underlying hu, asIntOf, hlt, run_size hs, add_none]
      · simp only [Bool.not_eq_true] at hb; rw [hb, cond_false] at h; simp at h
    · simp at h
  · simp at h

/-! ### Slices -/
def bnd (v : Option Value) (d : Nat) : Option Nat :=
  match v with
  | none => some d
  | some (.int _ (.ofNat k)) => some k
  | _ => none
theorem bnd_ok {P : Program} {r : Ren} {v v' : Option Value} {d y k : Nat} {code : BoundsCode} (hv : ∀ x x', v = some x → v' = some x' → VRel r x x') (hn : v.isSome = v'.isSome) (h : bnd v d = some k) (hk : k ≤ y) (w : World) :
    (v' = none → k = d) ∧ ∀ x', v' = some x' → (Instr.sliceBound x' y code).run P w = .ok k w := by
  cases v with
  | none =>
    simp only [bnd, Option.some.injEq] at h
    cases v' with
    | none => exact ⟨fun _ => h.symm, fun x' hx => by simp at hx⟩
    | some x' => simp at hn
  | some x =>
    cases v' with
    | none => simp at hn
    | some x' =>
      refine ⟨fun hx => by simp at hx, fun z hz => ?_⟩
      obtain rfl := Option.some.inj hz
      have hr := hv x x' rfl rfl
      unfold bnd at h
      split at h
      · simp at *
      · rename_i kk j heq
        obtain rfl := Option.some.inj heq
        obtain rfl := Option.some.inj h
        obtain rfl := hr.int_inv
        have : (j : Int) ≤ y := by omega
        simp [Instr.sliceBound, asIntOf, this]
      · simp at h

def absSlice (P : Program) (t : TypeId) (x : Value) (lo hi mx : Option Value) : Option Value :=
  match P.underlying t, x with
  | some .string, .string s => match bnd lo 0, bnd hi s.size, mx with
    | some l, some u, none => bif Nat.ble l u && Nat.ble u s.size then some (.string (s.extract l u)) else none
    | _, _, _ => none
  | some (.slice elem), .slice a len cap =>
    match bnd mx cap, bnd hi len, bnd lo 0, size P elem with
    | some m, some u, some l, some sz =>
      match a with
      | none => bif Nat.ble l u && Nat.ble u m && Nat.ble m cap && (mx.isNone || hi.isSome) then some (.slice none (u - l) (m - l)) else none
      | some a =>
        bif Nat.ble UNK cap then
          bif mx.isNone && Nat.beq cap (UNK + sz) && Nat.blt sz UNK && Nat.ble l u && Nat.ble u len then
            bif Nat.beq l u && !Nat.beq l 0 then some (.slice (some ⟨a.block, 0, none⟩) 0 UNK2) else some (.slice (some ⟨a.block, a.off + l * sz, none⟩) (u - l) cap)
          else none
        else bif Nat.ble l u && Nat.ble u m && Nat.ble m cap && (mx.isNone || hi.isSome) then some (.slice (some ⟨a.block, bif Nat.beq m l then a.off else a.off + l * sz, none⟩) (u - l) (m - l)) else none
    | _, _, _, _ => none
  | some (.pointer _), _ => none
  | some (.array n elem), .pointer (some a) =>
    match bnd mx n, bnd hi n, bnd lo 0, size P elem with
    | some m, some u, some l, some sz =>
      bif Nat.ble l u && Nat.ble u m && Nat.ble m n && (mx.isNone || hi.isSome) && Nat.blt n UNK then some (.slice (some ⟨a.block, bif Nat.beq m l then a.off else a.off + l * sz, none⟩) (u - l) (m - l)) else none
    | _, _, _, _ => none
  | _, _ => none

theorem bounds_ok {P : Program} {r : Ren} {lo hi mx lo' hi' mx' : Option Value} {isS : Bool} {len cap len' cap' l u m : Nat} (w : World)
    (hlo : ∀ x x', lo = some x → lo' = some x' → VRel r x x') (hhi : ∀ x x', hi = some x → hi' = some x' → VRel r x x') (hmx : ∀ x x', mx = some x → mx' = some x' → VRel r x x')
    (nlo : lo.isSome = lo'.isSome) (nhi : hi.isSome = hi'.isSome) (nmx : mx.isSome = mx'.isSome)
    (h1 : bnd mx cap = some m) (h2 : bnd hi len = some u) (h3 : bnd lo 0 = some l) (g1 : l ≤ u) (g2 : u ≤ m) (g3 : m ≤ cap') (g4 : mx = none → u ≤ cap') (g5 : mx = none ∨ hi.isSome = true) (e1 : len' = len) :
    (Instr.sliceBounds isS len' cap' lo' hi' mx').run P w = .ok (l, u, if mx = none then cap' else m) w := by
  subst e1
  have k1 := fun y (hy : u ≤ y) c => bnd_ok (P := P) (r := r) (v := hi) (v' := hi') (d := len') (y := y) (code := c) hhi nhi h2 hy w
  have k2 := fun y (hy : l ≤ y) c => bnd_ok (P := P) (r := r) (v := lo) (v' := lo') (d := 0) (y := y) (code := c) hlo nlo h3 hy w
  have k3 := fun y (hy : m ≤ y) c => bnd_ok (P := P) (r := r) (v := mx) (v' := mx') (d := cap) (y := y) (code := c) hmx nmx h1 hy w
  unfold Instr.sliceBounds
  cases mx' with
  | none =>
    have hmx0 : mx = none := by cases mx <;> simp_all
    subst hmx0
    have g4' := g4 rfl
    simp only [if_true, Sem.run_bind, Sem.run_pure, Result.andThen_ok]
    cases hi' with
    | none =>
      obtain rfl := (k1 u (Nat.le_refl _) .index).1 rfl
      simp only [Sem.run_bind, Sem.run_pure, Result.andThen_ok]
      cases lo' with
      | none => obtain rfl := (k2 l (Nat.le_refl _) .index).1 rfl; simp
      | some y => simp [(k2 u g1 _).2 y rfl]
    | some x =>
      simp only [Sem.run_bind, (k1 cap' g4' _).2 x rfl, Result.andThen_ok]
      cases lo' with
      | none => obtain rfl := (k2 l (Nat.le_refl _) .index).1 rfl; simp
      | some y => simp [(k2 u g1 _).2 y rfl]
  | some z =>
    have hmx0 : mx ≠ none := by cases mx <;> simp_all
    simp only [hmx0, if_false]
    cases hi' with
    | none => rcases g5 with g5 | g5 <;> simp_all
    | some x =>
      simp only [Sem.run_bind, (k3 cap' g3 _).2 z rfl, Result.andThen_ok, (k1 m g2 _).2 x rfl]
      cases lo' with
      | none => obtain rfl := (k2 l (Nat.le_refl _) .index).1 rfl; simp
      | some y => simp [(k2 u g1 _).2 y rfl]


theorem slice_ok {P : Program} {r : Ren} {t : TypeId} {x x' v : Value} {lo hi mx lo' hi' mx' : Option Value} (hx : VRel r x x')
    (hlo : ∀ x x', lo = some x → lo' = some x' → VRel r x x') (hhi : ∀ x x', hi = some x → hi' = some x' → VRel r x x') (hmx : ∀ x x', mx = some x → mx' = some x' → VRel r x x')
    (nlo : lo.isSome = lo'.isSome) (nhi : hi.isSome = hi'.isSome) (nmx : mx.isSome = mx'.isSome) (h : absSlice P t x lo hi mx = some v) (w : World) :
    ∃ v', (Instr.sliceAt t x' lo' hi' mx').run P w = .ok v' w ∧ VRel r v v' := by
  unfold absSlice at h
  split at h
  · rename_i s hu
    obtain rfl := hx.string_inv
    split at h
    · rename_i l u h1 h2
      by_cases hb : (Nat.ble l u && Nat.ble u s.size) = true
      · rw [hb, cond_true] at h
        obtain rfl := Option.some.inj h
        simp only [Bool.and_eq_true, Nat.ble_eq] at hb
        have hmx' : mx' = none := by cases mx' <;> simp_all
        subst hmx'
        have := bounds_ok (P := P) (r := r) (isS := false) (cap := s.size) (m := s.size) w hlo hhi (mx := none) (mx' := none) (by simp) nlo nhi rfl (by simp [bnd]) h2 h1 hb.1 hb.2 (Nat.le_refl s.size) (fun _ => hb.2) (.inl rfl) rfl
        refine ⟨.string (s.extract l u), ?_, .atom _ rfl⟩
        simp [Instr.sliceAt, run_underlying hu, Instr.slice, this]
      · simp only [Bool.not_eq_true] at hb; rw [hb, cond_false] at h; simp at h
    · simp at h
  · rename_i elem a len cap hu
    split at h
    · rename_i m u l sz h1 h2 h3 h4
      split at h
      · obtain rfl := hx.nilslice_inv
        by_cases hb : (Nat.ble l u && Nat.ble u m && Nat.ble m cap && (mx.isNone || hi.isSome)) = true
        · rw [hb, cond_true] at h
          obtain rfl := Option.some.inj h
          simp only [Bool.and_eq_true, Nat.ble_eq, Bool.or_eq_true, Option.isNone_iff_eq_none] at hb
          obtain ⟨⟨⟨g1, g2⟩, g3⟩, g4⟩ := hb
          have := bounds_ok (P := P) (r := r) (isS := true) (cap := cap) (m := m) (cap' := cap) w hlo hhi hmx nlo nhi nmx h1 h2 h3 g1 g2 g3 (fun _ => by omega) g4 rfl
          have hm : (if mx = none then cap else m) = m := by
            split
            · rename_i hn; subst hn; simpa [bnd] using h1
            · rfl
          rw [hm] at this
          refine ⟨.slice none (u - l) (m - l), ?_, .atom _ rfl⟩
          simp [Instr.sliceAt, run_underlying hu, Instr.slice, this, run_size h4]
        · simp only [Bool.not_eq_true] at hb; rw [hb, cond_false] at h; simp at h
      · rename_i a
        have hZ : cap ≠ UNK3 := by
          rintro rfl
          have e1 : Nat.ble UNK UNK3 = true := by decide
          rw [e1, cond_true] at h
          cases hb : (mx.isNone && Nat.beq UNK3 (UNK + sz) && Nat.blt sz UNK && Nat.ble l u && Nat.ble u len) with
          | false => rw [hb, cond_false] at h; simp at h
          | true =>
            simp only [Bool.and_eq_true, Nat.beq_eq, Nat.blt_eq] at hb
            have : UNK3 = UNK + UNK + UNK + UNK := by decide
            omega
        obtain ⟨b, o', c', rfl, ha, hr, hc⟩ := hx.slice_inv (fun h => hZ h.2)
        by_cases hU : Nat.ble UNK cap = true
        · rw [hU, cond_true] at h
          by_cases hb : (mx.isNone && Nat.beq cap (UNK + sz) && Nat.blt sz UNK && Nat.ble l u && Nat.ble u len) = true
          · rw [hb, cond_true] at h
            simp only [Bool.and_eq_true, Nat.ble_eq, Nat.beq_eq, Nat.blt_eq, Option.isNone_iff_eq_none] at hb
            obtain ⟨⟨⟨⟨rfl, hcap⟩, hsz⟩, hlu⟩, hul⟩ := hb
            simp only [Nat.ble_eq] at hU
            have hmx' : mx' = none := by cases mx' <;> simp_all
            subst hmx'
            rcases hc with ⟨_, _, h7⟩ | ⟨h6, h7⟩ | ⟨k, hk0, rfl, hk, h5, h6⟩
            · omega
            · -- empty
              exfalso
              have : UNK2 = UNK + UNK := by decide
              omega
            · have hks : k = sz := by omega
              subst hks
              have := bounds_ok (P := P) (r := r) (isS := true) (cap := c') (m := c') (cap' := c') w hlo hhi (mx := none) (mx' := none) (by simp) nlo nhi rfl (by simp [bnd]) h2 h3 hlu (by omega) (Nat.le_refl _) (fun _ => by omega) (.inl rfl) rfl
              simp only [if_true] at this
              by_cases he : (Nat.beq l u && !Nat.beq l 0) = true
              · rw [he, cond_true] at h
                obtain rfl := Option.some.inj h
                simp only [Bool.and_eq_true, Nat.beq_eq, Bool.not_eq_true'] at he
                obtain ⟨rfl, _⟩ := he
                by_cases hcl : c' = l
                · subst hcl
                  refine ⟨.slice (some ⟨b, a.off, none⟩) 0 0, ?_, .sliceE _ _ _ _ _ hr⟩
                  simp [Instr.sliceAt, run_underlying hu, Instr.slice, this, run_size h4]
                · refine ⟨.slice (some ⟨b, a.off + l * k, none⟩) 0 (c' - l), ?_, .sliceE _ _ _ _ _ hr⟩
                  simp [Instr.sliceAt, run_underlying hu, Instr.slice, this, run_size h4, hcl, add_none]
              · simp only [Bool.not_eq_true] at he
                rw [he, cond_false] at h
                obtain rfl := Option.some.inj h
                have hne : c' = l → l = 0 := by
                  intro e
                  simp only [Bool.and_eq_false_iff, Bool.not_eq_false'] at he
                  rcases he with he | he
                  · have : ¬ l = u := by intro e; rw [beq_of e] at he; simp at he
                    omega
                  · exact Nat.eq_of_beq_eq_true he
                refine ⟨.slice (some ⟨b, a.off + l * k, none⟩) (u - l) (c' - l), ?_, ?_⟩
                · by_cases hcl : c' = l
                  · have h0 := hne hcl
                    subst h0 hcl
                    simp [Instr.sliceAt, run_underlying hu, Instr.slice, this, run_size h4]
                  · simp [Instr.sliceAt, run_underlying hu, Instr.slice, this, run_size h4, hcl, add_none]
                · rw [hk]
                  refine .sliceU _ _ _ _ _ _ hr hk0 (by omega) ?_
                  have : l * k + (c' - l) * k = c' * k := by rw [← Nat.add_mul]; congr 1; omega
                  omega
          · simp only [Bool.not_eq_true] at hb; rw [hb, cond_false] at h; simp at h
        · have hU' : cap < UNK := by simp only [Nat.ble_eq] at hU; omega
          simp only [Bool.not_eq_true] at hU
          rw [hU, cond_false] at h
          by_cases hb : (Nat.ble l u && Nat.ble u m && Nat.ble m cap && (mx.isNone || hi.isSome)) = true
          · rw [hb, cond_true] at h
            obtain rfl := Option.some.inj h
            simp only [Bool.and_eq_true, Nat.ble_eq, Bool.or_eq_true, Option.isNone_iff_eq_none] at hb
            obtain ⟨⟨⟨g1, g2⟩, g3⟩, g4⟩ := hb
            rcases hc with ⟨rfl, rfl, _⟩ | ⟨_, h7⟩ | ⟨k, _, _, h7, _⟩
            · have := bounds_ok (P := P) (r := r) (isS := true) (cap := c') (m := m) (cap' := c') w hlo hhi hmx nlo nhi nmx h1 h2 h3 g1 g2 g3 (fun _ => by omega) g4 rfl
              have hm : (if mx = none then c' else m) = m := by
                split
                · rename_i hn; subst hn; simpa [bnd] using h1
                · rfl
              rw [hm] at this
              by_cases hml : m = l
              · subst hml
                refine ⟨.slice (some ⟨b, a.off, none⟩) (u - m) (m - m), ?_, ?_⟩
                · simp [Instr.sliceAt, run_underlying hu, Instr.slice, this, run_size h4]
                · rw [beq_of rfl, cond_true]; exact .slice _ _ _ _ _ hr (by omega)
              · refine ⟨.slice (some ⟨b, a.off + l * sz, none⟩) (u - l) (m - l), ?_, ?_⟩
                · simp [Instr.sliceAt, run_underlying hu, Instr.slice, this, run_size h4, hml, add_none]
                · rw [beq_ne hml, cond_false]; exact .slice _ _ _ _ _ hr (by omega)
            · have : UNK ≤ UNK2 := by decide
              omega
            · omega
          · simp only [Bool.not_eq_true] at hb; rw [hb, cond_false] at h; simp at h
    · simp at h
  · simp at h
  · rename_i n elem a hu
    obtain ⟨b, rfl, ha, hr⟩ := hx.ptr_inv
    split at h
    · rename_i m u l sz h1 h2 h3 h4
      by_cases hb : (Nat.ble l u && Nat.ble u m && Nat.ble m n && (mx.isNone || hi.isSome) && Nat.blt n UNK) = true
      · rw [hb, cond_true] at h
        obtain rfl := Option.some.inj h
        simp only [Bool.and_eq_true, Nat.ble_eq, Bool.or_eq_true, Option.isNone_iff_eq_none, Nat.blt_eq] at hb
        obtain ⟨⟨⟨⟨g1, g2⟩, g3⟩, g4⟩, g5⟩ := hb
        have := bounds_ok (P := P) (r := r) (isS := false) (cap := n) (m := m) (cap' := n) w hlo hhi hmx nlo nhi nmx h1 h2 h3 g1 g2 g3 (fun _ => by omega) g4 rfl
        have hm : (if mx = none then n else m) = m := by
          split
          · rename_i hn; subst hn; simpa [bnd] using h1
          · rfl
        rw [hm] at this
        by_cases hml : m = l
        · subst hml
          refine ⟨.slice (some ⟨b, a.off, none⟩) (u - m) (m - m), ?_, ?_⟩
          · simp [Instr.sliceAt, run_underlying hu, Instr.sureAddr, this, run_size h4]
          · rw [beq_of rfl, cond_true]; exact .slice _ _ _ _ _ hr (by omega)
        · refine ⟨.slice (some ⟨b, a.off + l * sz, none⟩) (u - l) (m - l), ?_, ?_⟩
          · simp [Instr.sliceAt, run_underlying hu, Instr.sureAddr, this, run_size h4, hml, add_none]
          · rw [beq_ne hml, cond_false]; exact .slice _ _ _ _ _ hr (by omega)
      · simp only [Bool.not_eq_true] at hb; rw [hb, cond_false] at h; simp at h
    · simp at h
  · simp at h

end Go.Abs
