/- The models of the phase's functions: the checks of sanity, and the phase made from bytes. -/
import Derived.Test.YtcpidomblalmpaaPhD
namespace Go.Proofs.Ytcpidomblalmpaa
open Am
set_option maxRecDepth 100000
theorem e9 : callD c0 100 9 [] [] 0 = some (.bool true, [], 0) := by kernel_rfl
def m9 : List AV → Option (Bool × AV)
  | [] => some (true, .bool true)
  | _ => none
noncomputable def c26 : Cfg := c25.add 9 m9
theorem c26_ok : CfgOK c26 := add_ok c25_ok fun xs v h => by
  unfold m9 at h; split at h
  · cases h; exact pure_of_call c0_ok e9 rfl
  · cases h
theorem byt_take {l : List Int} (n : Nat) (h : M.byt l = true) : M.byt (l.take n) = true := by
  simp only [M.byt, List.all_eq_true] at h ⊢
  exact fun x hx => h x (List.mem_of_mem_take hx)
theorem e10 (l : List Int) (hc : M.byt l = true) : callB c26 noCall 0 10 [.vi .u8 l] [] 0 =
    some (.agg [.int .i64 (M.made l).num, .int .i64 (M.made l).den, .int .i64 (M.made l).adj, .int .i64 (M.made l).pos, .int .i64 (M.made l).frac], [], 0) := by
  refine (show callB c26 noCall 0 10 [.vi .u8 l] [] 0 = (bif M.byt (l.take 300) && true then some (.agg [.int .i64 (M.made l).num, .int .i64 (M.made l).den, .int .i64 (M.made l).adj, .int .i64 (M.made l).pos, .int .i64 (M.made l).frac], [], 0) else none) by kernel_rfl).trans ?_
  simp only [byt_take 300 hc, Bool.and_true, cond_true]
def m10 : List AV → Option (Bool × AV)
  | [.vi .u8 l] => some (M.byt l, .agg [.int .i64 (M.made l).num, .int .i64 (M.made l).den, .int .i64 (M.made l).adj, .int .i64 (M.made l).pos, .int .i64 (M.made l).frac])
  | _ => none
noncomputable def c27 : Cfg := c26.add 10 m10
theorem c27_ok : CfgOK c27 := add_ok c26_ok fun xs v h => by
  unfold m10 at h; split at h
  · simp only [Option.some.injEq, Prod.mk.injEq] at h; obtain ⟨h1, rfl⟩ := h; exact pure_of_callB c26_ok noCall_ok (e10 _ h1) rfl
  · cases h
end Go.Proofs.Ytcpidomblalmpaa
