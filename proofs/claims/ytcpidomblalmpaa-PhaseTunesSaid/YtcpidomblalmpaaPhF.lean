/- The models of the phase's functions: retuning; what the rows need. -/
import Derived.Test.YtcpidomblalmpaaPhE
import Derived.Test.YtcpidomblalmpaaPhP
import Derived.Test.YtcpidomblalmpaaAmRow
import Derived.Test.YtcpidomblalmpaaRows
namespace Go.Proofs.Ytcpidomblalmpaa
open Am
set_option maxRecDepth 100000
set_option linter.unusedVariables false
set_option linter.unusedSimpArgs false
theorem own : ownKnob Try.prog.godebug = none := by kernel_rfl
theorem laidOut : laidOutB Try.prog = true := by kernel_rfl
theorem byt_of_wf {l : List Int} (h : ∀ n ∈ l, (Lit.int .u8 n).wf = true) : M.byt l = true := by
  simp only [M.byt, List.all_eq_true]
  intro n hn
  have := h n hn
  simpa [Lit.wf, IntKind.min, IntKind.max, IntKind.signed, IntKind.bits] using this

theorem e15 (num den adj pos frac n : Int) : callB c27 noCall 0 15 [.agg [.int .i64 num, .int .i64 den, .int .i64 adj, .int .i64 pos, .int .i64 frac], .int .i64 n] [] 0 = some (.tuple [.agg [.int .i64 (M.un (M.rtE num den adj pos frac n) (num)), .int .i64 (M.un (M.rtE num den adj pos frac n) (den)), .int .i64 (M.un (M.rtE num den adj pos frac n) (n)), .int .i64 (M.un (M.rtE num den adj pos frac n) (pos)), .int .i64 (M.un (M.rtE num den adj pos frac n) (frac))], .int .i64 (M.rtE num den adj pos frac n)], [], 0) := by
  refine (show callB c27 noCall 0 15 [.agg [.int .i64 num, .int .i64 den, .int .i64 adj, .int .i64 pos, .int .i64 frac], .int .i64 n] [] 0 = (bif !M.valid num den adj pos frac then some (.tuple [.agg [.int .i64 0, .int .i64 0, .int .i64 0, .int .i64 0, .int .i64 0], .int .i64 1], [], 0) else bif !M.tuned n then some (.tuple [.agg [.int .i64 0, .int .i64 0, .int .i64 0, .int .i64 0, .int .i64 0], .int .i64 2], [], 0) else some (.tuple [.agg [.int .i64 num, .int .i64 den, .int .i64 n, .int .i64 pos, .int .i64 frac], .int .i64 0], [], 0)) by kernel_rfl).trans ?_
  have ht : M.tuned n = !(decide (n < -4096) || decide (n > 4096)) := by
    unfold M.tuned
    by_cases h1 : n < -4096
    · rw [decide_eq_false (by omega : ¬ n ≥ -4096), decide_eq_true h1]; rfl
    · by_cases h2 : n > 4096
      · rw [decide_eq_false (by omega : ¬ n ≤ 4096), decide_eq_true h2]; simp
      · rw [decide_eq_true (by omega : n ≥ -4096), decide_eq_true (by omega : n ≤ 4096), decide_eq_false h1, decide_eq_false h2]; rfl
  unfold M.rtE
  rw [ht, Bool.not_not]
  cases M.valid num den adj pos frac <;> cases (decide (n < -4096) || decide (n > 4096)) <;> rfl
def m15 : List AV → Option (Bool × AV)
  | [.agg [.int .i64 num, .int .i64 den, .int .i64 adj, .int .i64 pos, .int .i64 frac], .int .i64 n] => some (true, .tuple [.agg [.int .i64 (M.un (M.rtE num den adj pos frac n) (num)), .int .i64 (M.un (M.rtE num den adj pos frac n) (den)), .int .i64 (M.un (M.rtE num den adj pos frac n) (n)), .int .i64 (M.un (M.rtE num den adj pos frac n) (pos)), .int .i64 (M.un (M.rtE num den adj pos frac n) (frac))], .int .i64 (M.rtE num den adj pos frac n)])
  | _ => none
noncomputable def d28 : Cfg := c27.add 15 m15
theorem d28_ok : CfgOK d28 := add_ok c27_ok fun xs v h => by
  unfold m15 at h; split at h
  · cases h; exact pure_of_callB c27_ok noCall_ok (e15 _ _ _ _ _ _) rfl
  · cases h
end Go.Proofs.Ytcpidomblalmpaa
