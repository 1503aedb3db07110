/- The models of matrices: some maps; joins and cuts of blocks. -/
import Derived.Test.YtooiechjanmdjaaMaJ
namespace Go.Proofs.Ytooiechjanmdjaa
open Am
set_option maxRecDepth 100000
set_option linter.unusedVariables false
set_option linter.unusedSimpArgs false
set_option maxHeartbeats 4000000

namespace M
def maps : List (List Int) := [[3], [1, 2], [1, 2, 3, 4, 5, 6], [2, 1], [1, 2, 7, 8], [4], [1, 3]]
def mapOf (l : List Int) : List Int := maps.getD (nextV 7 l).toNat []
end M
theorem p_Maps : PureOK g5.P 50 [] (.vr .i64 M.maps) :=
  PureOK.weak (pure_of_callB (m := 10) g5_ok noCall_ok (u := []) (nx := 0) (show callB g5 noCall 10 50 [] [] 0 = some (.vc 1 7 (M.maps.map (.vi .i64)), [], 0) by kernel_rfl) rfl) (.refl _) (.leaf (.leaf (.tab .i64 M.maps)))
def m_Maps : List AV → Option (Bool × AV)
  | [] => some (true, .vr .i64 M.maps)
  | _ => none
noncomputable def g6 : Cfg := g5.add 50 m_Maps
theorem g6_ok : CfgOK g6 := add_ok g5_ok fun xs v h => by
  unfold m_Maps at h; split at h
  · cases h; exact p_Maps
  · cases h

theorem e_Map (l : List Int) (hc : M.byt l = true) : callB g6 noCall 0 25 [.ptr 0 0 1] [(0, .fix (.cells [.vi .u8 l]))] 1 = some (.vi .i64 (M.mapOf l), [(0, .fix (.cells [.vi .u8 (M.nextL 7 l)]))], 1) := by
  refine (show callB g6 noCall 0 25 [.ptr 0 0 1] [(0, .fix (.cells [.vi .u8 l]))] 1 = (bif decide (0 ≤ M.nextV 7 l) && decide (M.nextV 7 l < 7) && true then some (.vi .i64 (M.mapOf l), [(0, .fix (.cells [.vi .u8 (M.nextL 7 l)]))], 1) else none) by kernel_rfl).trans ?_
  have r := next_range (n := 7) (by omega) hc
  rw [decide_eq_true r.1, decide_eq_true r.2]
  rfl
def m_Map : List AV → Sto → Option (Bool × AV × Upd × Nat)
  | [.ptr 0 0 1], [(0, .fix (.cells [.vi .u8 l]))] => some (M.byt l, .vi .i64 (M.mapOf l), [(0, .fix (.cells [.vi .u8 (M.nextL 7 l)]))], 1)
  | _, _ => none
noncomputable def g7 : Cfg := g6.addR 25 m_Map
theorem g7_ok : CfgOK g7 := addR_ok g6_ok fun xs s v u nx h => by
  unfold m_Map at h; split at h
  · simp only [Option.some.injEq, Prod.mk.injEq] at h; obtain ⟨h1, rfl, rfl, rfl⟩ := h; exact callB_ok g6_ok noCall_ok 0 _ _ _ _ _ _ _ (e_Map _ h1)
  · cases h

end Go.Proofs.Ytooiechjanmdjaa
