/- The models of conversions: room for a row, out of the library's own contract for slices.Grow. -/
import Derived.Test.YtooiechjanmdjaaCw
import Derived.Shelf.Spec.SlicesGrow
namespace Go.Proofs.Ytooiechjanmdjaa
open Am
set_option maxRecDepth 100000
set_option linter.unusedVariables false
set_option linter.unusedSimpArgs false

def growR : Go.Shelf.Ren := ⟨fun _ => 103, fun i => match i with | 0 => 0 | 3 => 3 | 4 => 4 | 9 => 9 | 20 => 20 | 22 => 32 | 25 => 21 | i => i, fun i => i⟩
theorem agg_no {t : TypeId} (h1 : (Try.prog.underlying t).isSome = true) (h2 : isAggT Try.prog t = false) (w : World) : (isAgg t).run Try.prog w = .ok false w := by
  rw [run_isAgg h1, h2]
theorem zero_is {t : TypeId} {i : TypeInfo} {Z : Value} (h : Try.prog.info? t = some i) (hz : i.zero = some Z) (w : World) : (zeroValue t).run Try.prog w = .ok Z w := run_zero h hz
theorem zero_at {t : TypeId} {Z : Value} (h : ((Try.prog.info? t).bind (·.zero)) = some Z) (w : World) : (zeroValue t).run Try.prog w = .ok Z w := by
  cases hi : Try.prog.info? t with
  | none => rw [hi] at h; cases h
  | some i => rw [hi] at h; exact run_zero hi h
theorem growL : Lays8.n4 Try.prog growR where
  mixed := by kernel_rfl
  f4 := ⟨"slices.Grow[[]int32,int32]", by decide, by kernel_rfl⟩
  t0 := by kernel_rfl
  a0 := agg_no (by kernel_rfl) (by kernel_rfl)
  z0 := fun w => run_sizeOfA (by kernel_rfl)
  v0 := zero_at (by kernel_rfl)
  t3 := by kernel_rfl
  a3 := agg_no (by kernel_rfl) (by kernel_rfl)
  z3 := fun w => run_sizeOfA (by kernel_rfl)
  v3 := zero_at (by kernel_rfl)
  t4 := by kernel_rfl
  a4 := agg_no (by kernel_rfl) (by kernel_rfl)
  z4 := fun w => run_sizeOfA (by kernel_rfl)
  v4 := zero_at (by kernel_rfl)
  t9 := by kernel_rfl
  a9 := agg_no (by kernel_rfl) (by kernel_rfl)
  z9 := fun w => run_sizeOfA (by kernel_rfl)
  v9 := zero_at (by kernel_rfl)
  t20 := by kernel_rfl
  a20 := agg_no (by kernel_rfl) (by kernel_rfl)
  z20 := fun w => run_sizeOfA (by kernel_rfl)
  v20 := zero_at (by kernel_rfl)
  t22 := by kernel_rfl
  a22 := agg_no (by kernel_rfl) (by kernel_rfl)
  z22 := fun w => run_sizeOfA (by kernel_rfl)
  v22 := zero_at (by kernel_rfl)
theorem info32 : ∃ i, Try.prog.info? 21 = some i ∧ i.size = 1 ∧ i.zero = some (.int .i32 0) ∧ i.bytes = 4 := by
  cases h : Try.prog.info? 21 with
  | none => exact absurd (show (Try.prog.info? 21).isSome = true by kernel_rfl) (by rw [h]; simp)
  | some i =>
    have h1 : (Try.prog.info? 21).map (fun i => (i.size, i.zero, i.bytes)) = some (1, some (.int .i32 0), 4) := by kernel_rfl
    rw [h] at h1
    simp only [Option.map_some, Option.some.injEq, Prod.mk.injEq] at h1
    exact ⟨i, rfl, h1.1, h1.2.1, h1.2.2⟩
theorem p_Grow (n : Int) (h1 : 1 ≤ n) (h2 : n ≤ 4294967296) : RawOK Try.prog 103 [.nilsl, .int .i64 n] [] 0 (.gsl 0 0) [(0, .grow 1 0 (.ints .i32 []))] 1 := fun g w AS hA hb hi hu hlo => by
  obtain ⟨k, rfl⟩ := Int.eq_ofNat_of_zero_le (show 0 ≤ n by omega)
  obtain ⟨i, hinfo, hsz, hz, hby⟩ := info32
  cases hA with
  | cons ha hA =>
  cases hA with
  | cons hb' hA =>
  cases hA
  simp only [Rel2, Rel1, Rel0] at ha hb'
  cases ha
  cases hb'
  have hfresh : ¬ g.used 0 := fun h => by have := (hu 0).1 h; omega
  have hnone : ∀ b', g.own b' ≠ some 0 := fun b' hh => hfresh (hi.owner b' 0 hh)
  have hcall := Any8.slices_Grow_grow growL i (.int .i32 0) hinfo hz (by omega) none 0 0 k [] w (Nat.le_refl _) (by omega) (by rw [hby]; omega) (by omega) (by simp) (fun _ => rfl) (fun a h => by cases h)
  refine Calls.mono (show Calls Try.prog 103 #[.slice none 0 0, .int .i64 k] w _ from hcall) fun e w' ⟨he, hw⟩ => ?_
  subst hw
  have hge := grownCap_ge w (0 + k) 0 21
  generalize hC : ([].toArray ++ Builtin.zeroCells (Value.int .i32 0).cells (0 + k - 0) ++ Builtin.zeroCells (Value.int .i32 0).cells (grownCap w (0 + k) 0 (growR.t 25) - (0 + k)) : Array Value) = C at he ⊢
  have hCs : C.size = grownCap w (0 + k) 0 21 := by
    rw [← hC]
    have hz1 : (Value.int .i32 0).cells.size = 1 := rfl
    simp only [Array.size_append, Builtin.zeroCells, List.size_toArray, List.length_nil]
    have hg : growR.t 25 = 21 := rfl
    have hge' : k ≤ grownCap w k 0 21 := by simpa using hge
    simp [hz1, hg]
    omega
  have hst : Step g w (g.row 0 w.heap.size 0 1 0) (w.drew.alloc (.cells C (growR.t 25))) :=
    step_row hi (fun h => absurd h hfresh) (.inl (Nat.le_refl _)) (by simp) (fun b' hb' _ => alloc_old (w := w.drew) hb') (fun _ _ _ h _ => by omega) (fun h => by omega)
  refine ⟨_, g.row 0 w.heap.size 0 1 0, he, ?_⟩
  exact post_row (c := .ints .i32 []) hi hst (by simp) (.inl (Nat.le_refl _)) (fun b' hb' _ => alloc_old (w := w.drew) hb') (Nat.le_refl _) rfl rfl (by have := alloc_new (w := w.drew) (o := .cells C (growR.t 25)); simpa using this) (Nat.zero_le _) (by rw [hCs]; show grownCap w (0 + k) 0 21 * 1 ≤ _; omega) (fun j hj => by omega)
    (fun b' hh => absurd hh (hnone b')) (.inr ⟨by omega, by omega⟩)
theorem p_Grow0 : PureOK Try.prog 103 [.nilsl, .int .i64 0] .nilsl := fun S w AS hS hA => by
  cases hA with
  | cons ha hA =>
  cases hA with
  | cons hb' hA =>
  cases hA
  cases ha
  cases hb'
  exact Calls.mono (show Calls Try.prog 103 #[.slice none 0 0, .int .i64 ((0 : Nat) : Int)] w _ from Any8.slices_Grow_room growL none 0 0 0 w (Nat.le_refl _) (by omega) (by omega) (by omega)) fun e w' ⟨he, hw⟩ => by
    subst hw
    exact ⟨_, he, Nat.le_refl _, fun _ _ => rfl, rfl, rfl, .nilsl⟩
end Go.Proofs.Ytooiechjanmdjaa
