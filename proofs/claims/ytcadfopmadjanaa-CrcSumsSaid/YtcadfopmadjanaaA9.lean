/- A9: every operation of the abstract machine is what the model does. General over the program. -/
import Derived.Test.YtcadfopmadjanaaA8
namespace Go.Abs
set_option linter.unusedVariables false
set_option linter.unusedSimpArgs false

theorem binRun_ok {P : Program} {r : Ren} {op : BinOp} {t : TypeId} {X Y : Operand} {x y x' y' v : Value} (hx : VRel r x x') (hy : VRel r y y') (h : absBin P op t X Y x y = some v) (w : World) :
    ((do eqGuard op t X Y x' y'; binOp op t x' y') : Sem Value).run P w = .ok v w ∧ VRel r v v := by
  have hpure : ∀ (hp : (bif noPtr 8 x && noPtr 8 y then pureVal P (do eqGuard op t X Y x y; binOp op t x y) else none) = some v), ((do eqGuard op t X Y x' y'; binOp op t x' y') : Sem Value).run P w = .ok v w ∧ VRel r v v := by
    intro hp
    by_cases hb : (noPtr 8 x && noPtr 8 y) = true
    · rw [hb, cond_true] at hp
      simp only [Bool.and_eq_true] at hb
      obtain rfl := VRel.eq_of_noPtr 8 _ _ hx hb.1
      obtain rfl := VRel.eq_of_noPtr 8 _ _ hy hb.2
      exact pureVal_run w hp r
    · simp only [Bool.not_eq_true] at hb; rw [hb, cond_false] at hp; simp at hp
  unfold absBin at h
  split at h
  · obtain rfl := hx.int_inv
    obtain rfl := hy.int_inv
    exact pureVal_run w h r
  · split at h
    · rename_i b hb
      obtain rfl := Option.some.inj h
      exact ⟨(eqNil_run hx hy hb w X Y).1, .atom _ rfl⟩
    · rename_i b hb
      obtain rfl := Option.some.inj h
      exact ⟨(eqNil_run hx hy hb w X Y).2, .atom _ rfl⟩
    · exact hpure h

theorem convert_ok {P : Program} {r : Ren} {σ σ' : AHeap} {w : World} {sT dT : TypeId} {x x' v : Value} (h : WRel r σ w) (hx : VRel r x x') (ha : absConvert P sT dT x σ = some (v, σ')) :
    ∃ v' r' w', (convert sT dT x').run P w = .ok v' w' ∧ Step r σ w r' σ' w' ∧ VRel r' v v' := by
  unfold absConvert at ha
  split at ha
  · obtain rfl := hx.int_inv
    obtain ⟨u, hu, e⟩ := Option.map_eq_some_iff.1 ha
    simp only [Prod.mk.injEq] at e
    obtain ⟨rfl, rfl⟩ := e
    obtain ⟨k1, k2⟩ := pureVal_run w hu r
    exact ⟨u, r, w, k1, Step.refl h, k2⟩
  · obtain ⟨u, hu, e⟩ := Option.map_eq_some_iff.1 ha
    simp only [Prod.mk.injEq] at e
    obtain ⟨rfl, rfl⟩ := e
    obtain ⟨k1, k2⟩ := toString_ok h hx hu
    exact ⟨u, r, w, k1, Step.refl h, k2⟩
  · split at ha
    · rename_i q hq
      obtain rfl := Option.some.inj ha
      exact toBytes_ok h hx hq
    · obtain rfl := hx.string_inv
      obtain ⟨u, hu, e⟩ := Option.map_eq_some_iff.1 ha
      simp only [Prod.mk.injEq] at e
      obtain ⟨rfl, rfl⟩ := e
      obtain ⟨k1, k2⟩ := pureVal_run w hu r
      exact ⟨u, r, w, k1, Step.refl h, k2⟩
  · simp at ha

theorem nilCheck_ok {P : Program} {r : Ren} {x x' : Value} (hx : VRel r x x') (h : nilChecked x = true) (w : World) {o : Oper} {a : Act} {X : Operand} (ho : o.op = .nilCheck X) (ha : a.eval X = x') :
    (execOp a.eval o).run P w = .ok (.value x') w := by
  unfold nilChecked at h
  split at h
  · obtain ⟨b, rfl, _, _⟩ := hx.ptr_inv; simp only [execOp, ho, ha]; rfl
  · obtain ⟨_, _, _, _, rfl, _⟩ := hx.func_inv; simp only [execOp, ho, ha]; rfl
  · obtain ⟨_, rfl, _⟩ := hx.iface_inv; simp only [execOp, ho, ha]; rfl
  · rename_i b l c
    have : ∃ a' c', x' = .slice a' l c' := by
      cases b with
      | none => exact ⟨_, _, hx.nilslice_inv⟩
      | some a => obtain ⟨s, c', rfl⟩ := hx.slice_shape; exact ⟨_, _, rfl⟩
    obtain ⟨a', c', rfl⟩ := this
    simp only [execOp, ho, ha]; rfl
  · rename_i b
    have : ∃ a', x' = .map a' := by
      cases b with
      | none => exact ⟨_, hx.nilmap_inv⟩
      | some a => obtain ⟨b, rfl, _⟩ := hx.map_inv; exact ⟨_, rfl⟩
    obtain ⟨a', rfl⟩ := this
    simp only [execOp, ho, ha]; rfl
  · obtain rfl := hx.int_inv; simp only [execOp, ho, ha]; rfl
  · obtain rfl := hx.bool_inv; simp only [execOp, ho, ha]; rfl
  · obtain rfl := hx.string_inv; simp only [execOp, ho, ha]; rfl
  · simp at h

theorem run_v {P : Program} {s : Sem Value} {w w' : World} {v : Value} (h : s.run P w = .ok v w') : ((do pure (.value (← s))) : Sem Next).run P w = .ok (.value v) w' := by
  simp only [Sem.run_bind, h, Result.andThen_ok, Sem.run_pure]

set_option maxHeartbeats 2000000 in
theorem op_ok {P : Program} {call : Caller} {r : Ren} {σ σ' : AHeap} {w : World} {ρ : Operand → Value} {a : Act} {o : Oper} {v : Value} (C : Ctx P call r σ w ρ a) (ha : absOp P call ρ o σ = some (v, σ')) (hob : σ'.obl.all id = true) : Goal P o r σ w a v σ' := by
  have same : ∀ {u : Option Value} {v : Value} {σ' : AHeap}, (u.map fun v => (v, σ)) = some (v, σ') → u = some v ∧ σ' = σ := by
    intro u v σ' h
    obtain ⟨u', hu, e⟩ := Option.map_eq_some_iff.1 h
    simp only [Prod.mk.injEq] at e
    obtain ⟨rfl, rfl⟩ := e
    exact ⟨hu, rfl⟩
  have fin : ∀ {s : Sem Value} {v' : Value} {r' : Ren} {w' : World} {v : Value} {σ' : AHeap}, execOp a.eval o = (do pure (.value (← s))) → s.run P w = .ok v' w' → Step r σ w r' σ' w' → VRel r' v v' → Goal P o r σ w a v σ' := by
    intro s v' r' w' v σ' h1 h2 h3 h4
    exact .of_run (by rw [h1]; exact run_v h2) h3 h4
  unfold absOp at ha
  split at ha
  -- move, assign
  · rename_i x ho
    simp only [Option.some.injEq, Prod.mk.injEq] at ha
    obtain ⟨rfl, rfl⟩ := ha
    exact .of_run (by simp only [execOp, ho]; rfl) (Step.refl C.h) (C.ev x)
  · rename_i x ho
    simp only [Option.some.injEq, Prod.mk.injEq] at ha
    obtain ⟨rfl, rfl⟩ := ha
    exact .of_run (by simp only [execOp, ho]; rfl) (Step.refl C.h) (C.ev x)
  -- binOp
  · rename_i op t x y yt ho
    obtain ⟨h1, rfl⟩ := same ha
    obtain ⟨k1, k2⟩ := binRun_ok (C.ev x) (C.ev y) h1 w
    exact fin (by simp only [execOp, ho]) k1 (Step.refl C.h) k2
  -- load
  · rename_i t x ho
    split at ha
    · rename_i ad heq
      obtain ⟨h1, rfl⟩ := same ha
      have hx := C.ev x
      rw [heq] at hx
      obtain ⟨b, e1, e2, hr⟩ := hx.ptr_inv
      obtain ⟨v', k1, k2⟩ := load_ok C.h hr h1
      exact fin (s := Instr.loadAt t (a.eval x)) (by simp only [execOp, ho]) (by rw [e1]; simp only [Instr.loadAt, Instr.sureAddr, Sem.run_bind, Sem.run_pure, Result.andThen_ok]; exact k1) (Step.refl C.h) k2
    · simp at ha
  -- store
  · rename_i t x y ho
    split at ha
    · rename_i ad heq
      obtain ⟨σ1, h1, e⟩ := Option.map_eq_some_iff.1 ha
      simp only [Prod.mk.injEq] at e
      obtain ⟨rfl, rfl⟩ := e
      have hx := C.ev x
      rw [heq] at hx
      obtain ⟨b, e1, e2, hr⟩ := hx.ptr_inv
      obtain ⟨w', k1, k2⟩ := store_ok C.h hr (C.ev y) h1
      intro K Q hk
      refine wp_skip' ?_ (hk r w' undef k2 (.undef r))
      simp only [execOp, ho, e1, Instr.storeAt, Instr.sureAddr, Sem.run_bind, Sem.run_pure, Result.andThen_ok, k1]
    · simp at ha
  -- call
  · rename_i c ho
    exact call_ok C ho ha hob
  -- fieldAddr
  · rename_i s x f ho
    obtain ⟨h1, rfl⟩ := same ha
    obtain ⟨v', k1, k2⟩ := fieldAddr_ok (C.ev x) h1 w
    exact fin (by simp only [execOp, ho]) k1 (Step.refl C.h) k2
  -- indexAddr
  · rename_i t x ix ho
    obtain ⟨h1, rfl⟩ := same ha
    obtain ⟨v', k1, k2⟩ := indexAddr_ok (C.ev x) (C.ev ix) h1 w
    exact fin (by simp only [execOp, ho]) k1 (Step.refl C.h) k2
  -- nilCheck
  · rename_i x ho
    by_cases hb : nilChecked (ρ x) = true
    · rw [hb, cond_true] at ha
      simp only [Option.some.injEq, Prod.mk.injEq] at ha
      obtain ⟨rfl, rfl⟩ := ha
      exact .of_run (nilCheck_ok (C.ev x) hb w ho rfl) (Step.refl C.h) (C.ev x)
    · simp only [Bool.not_eq_true] at hb; rw [hb, cond_false] at ha; simp at ha
  -- convert
  · rename_i s d x ho
    obtain ⟨v', r', w', k1, k2, k3⟩ := convert_ok C.h (C.ev x) ha
    exact fin (by simp only [execOp, ho]) k1 k2 k3
  -- pick
  · rename_i c x y ho
    split at ha
    · rename_i t heq
      simp only [Option.some.injEq, Prod.mk.injEq] at ha
      obtain ⟨rfl, rfl⟩ := ha
      have hc := C.ev c
      rw [heq] at hc
      have e1 := hc.bool_inv
      refine .of_run (v' := if t then a.eval x else a.eval y) ?_ (Step.refl C.h) ?_
      · simp only [execOp, ho, e1, asBool, Sem.run_bind, Sem.run_pure, Result.andThen_ok]
      · cases t
        · exact C.ev y
        · exact C.ev x
    · simp at ha
  -- extract
  · rename_i t ix ho
    obtain ⟨h1, rfl⟩ := same ha
    obtain ⟨v', k1, k2⟩ := extract_ok (C.ev t) h1 w
    exact fin (by simp only [execOp, ho]) k1 (Step.refl C.h) k2
  -- slice
  · rename_i t x lo hi mx ho
    obtain ⟨h1, rfl⟩ := same ha
    have ho' : ∀ (y : Option Operand) (u u' : Value), y.map ρ = some u → y.map a.eval = some u' → VRel r u u' := by
      intro y u u' h2 h3
      cases y with
      | none => simp at h2
      | some z => simp at h2 h3; subst h2 h3; exact C.ev z
    obtain ⟨v', k1, k2⟩ := slice_ok (lo' := lo.map a.eval) (hi' := hi.map a.eval) (mx' := mx.map a.eval) (C.ev x) (ho' lo) (ho' hi) (ho' mx) (by simp) (by simp) (by simp) h1 w
    exact fin (by simp only [execOp, ho]) k1 (Step.refl C.h) k2
  -- unOp
  · rename_i op t x ho
    by_cases hb : noPtr 8 (ρ x) = true
    · rw [hb, cond_true] at ha
      obtain ⟨h1, rfl⟩ := same ha
      have e1 := VRel.eq_of_noPtr 8 _ _ (C.ev x) hb
      obtain ⟨k1, k2⟩ := pureVal_run w h1 r
      exact fin (s := Op.unary op (a.eval x)) (by simp only [execOp, ho]) (by rw [e1]; exact k1) (Step.refl C.h) k2
    · simp only [Bool.not_eq_true] at hb; rw [hb, cond_false] at ha; simp at ha
  -- buildSlice
  · rename_i t len parts ho
    obtain ⟨v', r', w', k1, k2, k3⟩ := buildSlice_ok (ps := (parts.map fun p => (p.1, ρ p.2))) (ps' := parts.map fun p => (p.1, a.eval p.2)) C.h (by simpa using parts_rel C.ev parts.toList) (by simpa using ha)
    exact fin (s := Instr.buildSlice t len (parts.map fun p => (p.1, a.eval p.2))) (by simp only [execOp, ho]) k1 k2 k3
  -- build
  · rename_i t parts ho
    obtain ⟨h1, rfl⟩ := same ha
    obtain ⟨v', k1, k2⟩ := build_ok (ps := (parts.map fun p => (p.1, ρ p.2))) (ps' := parts.map fun p => (p.1, a.eval p.2)) (by simpa using parts_rel C.ev parts.toList) (by simpa using h1) w
    exact fin (s := Instr.build t (parts.map fun p => (p.1, a.eval p.2))) (by simp only [execOp, ho]) k1 (Step.refl C.h) k2
  -- alloc
  · rename_i e ho
    obtain ⟨v', r', w', k1, k2, k3⟩ := alloc_ok C.h ha
    exact fin (by simp only [execOp, ho]) k1 k2 k3
  -- box
  · rename_i e x ho
    obtain ⟨v', r', w', k1, k2, k3⟩ := box_ok C.h (C.ev x) ha
    exact fin (by simp only [execOp, ho]) k1 k2 k3
  -- field
  · rename_i t x f ho
    obtain ⟨h1, rfl⟩ := same ha
    obtain ⟨v', k1, k2⟩ := field_ok (C.ev x) h1 w
    exact fin (by simp only [execOp, ho]) k1 (Step.refl C.h) k2
  -- index
  · rename_i t x ix ho
    obtain ⟨h1, rfl⟩ := same ha
    obtain ⟨v', k1, k2⟩ := index_ok (C.ev x) (C.ev ix) h1 w
    exact fin (by simp only [execOp, ho]) k1 (Step.refl C.h) k2
  -- makeSlice
  · rename_i t l c ho
    obtain ⟨v', r', w', k1, k2, k3⟩ := makeSlice_ok C.h (C.ev l) (C.ev c) ha
    exact fin (by simp only [execOp, ho]) k1 k2 k3
  -- makeInterface
  · rename_i t x ho
    split at ha
    · simp at ha
    · simp at ha
    · rename_i d hd hu
      simp only [Option.some.injEq, Prod.mk.injEq] at ha
      obtain ⟨rfl, rfl⟩ := ha
      refine fin (s := Instr.makeInterface t (a.eval x)) (v' := .iface t (a.eval x)) (by simp only [execOp, ho]) ?_ (Step.refl C.h) (.iface _ _ _ (C.ev x))
      simp only [Instr.makeInterface, Sem.run_bind, run_underlying hu, Result.andThen_ok]
      cases d <;> first | rfl | exact absurd rfl (hd _)
  -- makeFunc
  · rename_i f first caps ho
    by_cases hb : first.isEmpty = true
    · rw [hb, cond_true] at ha
      simp only [Option.some.injEq, Prod.mk.injEq] at ha
      obtain ⟨rfl, rfl⟩ := ha
      have hfirst : first = #[] := by simpa using hb
      have hl : LRel r (caps.map ρ).toList (caps.map a.eval).toList := by simpa using args_rel C.ev caps.toList
      refine fin (s := Instr.makeFunc (.func f) (first.map a.eval) (caps.map a.eval)) (v' := .func (.func f) #[] (caps.map a.eval)) (by simp only [execOp, ho]) ?_ (Step.refl C.h) (.func _ _ _ hl.arrays.1 hl.arrays.2)
      rw [hfirst]; simp [Instr.makeFunc]
    · simp only [Bool.not_eq_true] at hb; rw [hb, cond_false] at ha; simp at ha
  · simp at ha

end Go.Abs
