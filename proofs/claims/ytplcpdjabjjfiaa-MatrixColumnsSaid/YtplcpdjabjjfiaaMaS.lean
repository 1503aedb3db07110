/- The check of sanity of the matrices. -/
import Derived.Test.YtplcpdjabjjfiaaMaE
namespace Go.Proofs.Ytplcpdjabjjfiaa
open Am
set_option maxRecDepth 100000
set_option linter.unusedVariables false
set_option linter.unusedSimpArgs false

theorem e_sane : callD k0 100 9 [] [] 0 = some (.bool true, [], 0) := by kernel_rfl
def m_sane : List AV → Option (Bool × AV)
  | [] => some (true, .bool true)
  | _ => none
noncomputable def z1 : Cfg := d6.add 9 m_sane
theorem z1_ok : CfgOK z1 := add_ok d6_ok fun xs v h => by
  unfold m_sane at h; split at h
  · cases h; exact pure_of_call k0_ok e_sane rfl
  · cases h

end Go.Proofs.Ytplcpdjabjjfiaa
