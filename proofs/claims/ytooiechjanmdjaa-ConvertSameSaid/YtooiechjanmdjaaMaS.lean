/- The check of sanity of the matrices. -/
import Derived.Test.YtooiechjanmdjaaMaE
namespace Go.Proofs.Ytooiechjanmdjaa
open Am
set_option maxRecDepth 100000
set_option linter.unusedVariables false
set_option linter.unusedSimpArgs false

def m_sane : List AV → Option (Bool × AV)
  | [] => some (true, .bool true)
  | _ => none
noncomputable def z1 : Cfg := d6

theorem z1_ok : CfgOK z1 := d6_ok

end Go.Proofs.Ytooiechjanmdjaa
