/-
  No cell of these rows narrows 'for every input' (looked for: loops, veiled, ifaces, maps, wideKeys, modest, calm, conditions, laid).
  DERIVED. THE GIVEN ROWS OF THIS SEAT. 6 by the template 'for every input the law returns true; each argument reads behind the call as it read before'; 0 by the template 'total and deterministic' (their statements: YtplcpdjabjjfiaaTotals.lean).
  GIVEN WITH THE SEED: the statements are not yours to turn. If you find one false, say at which input.
  Laid BY PROGRAM, IN A SANDBOX (cutbox-rows.mjs): the forced cells as the released guide's own fill.sh prints them over the translation 52b8da493ef56782… (all of the seat's roots in one cut). By AI agents, Wed Nov 11 2026. No macro, syntax, notation, axiom, sorry.
-/
import Derived.Test.YtplcpdjabjjfiaaChecked
import GoSem.Claim
import GoSem.ClaimJoined
import GoSem.ClaimMapViews
import Derived.JoinedTies
import Derived.KernelRfl
namespace Go.Proofs.Ytplcpdjabjjfiaa
/- THE CELL 'sum', in the pinned program and in every row, IS THE sha256 OF THE DUMP (.gsa) THAT YtplcpdjabjjfiaaProg.lean LOADS. Nothing in Lean hashes anything: it is a label: what it is worth is what the hold of that sum in a sandbox is worth. -/
noncomputable def Try.pinned : Pinned := { name := "ytplcpdjabjjfiaa", sum := "52b8da493ef5678215460c24dec103decdfe1100dae35988dbf59957712aaf9e", checked := Try.checked }
namespace Rows
def none {H : Type} : Left H := { results := [], args := [] }

/-- 'soundservicelaw07.MatrixApplies': WHATEVER THE INPUT: true; the input reads as it did. -/
def matrixAppliesSpec : ChangeSpec := { name := "matrixApplies", fn := fun _ => fun
  | [d1, d2, d3, d4] => { results := [.lit (.bool true)], args := [d1, d2, d3, d4] }
  | _ => none }
def matrixAppliesRow : OpenClaim := { program := "ytplcpdjabjjfiaa", sum := "52b8da493ef5678215460c24dec103decdfe1100dae35988dbf59957712aaf9e", func := "soundservice/soundservicelaw07.MatrixApplies", spec := "matrixApplies", apart := false }
def MatrixAppliesSaid : Prop := matrixAppliesRow.holds Try.pinned (OpenSpec.ofChange matrixAppliesSpec)

/-- ITS FALSE NEIGHBOUR: 'it returns false'. Refute it at one input. -/
def matrixAppliesWrong : ChangeSpec := { name := "matrixApplies", fn := fun _ => fun
  | [d1, d2, d3, d4] => { results := [.lit (.bool false)], args := [d1, d2, d3, d4] }
  | _ => none }
def MatrixAppliesWrongFalsely : Prop := matrixAppliesRow.holds Try.pinned (OpenSpec.ofChange matrixAppliesWrong)

/-- 'soundservicelaw07.MatrixDefaults': WHATEVER THE INPUT: true; the input reads as it did. -/
def matrixDefaultsSpec : ChangeSpec := { name := "matrixDefaults", fn := fun _ => fun
  | [d1, d2] => { results := [.lit (.bool true)], args := [d1, d2] }
  | _ => none }
def matrixDefaultsRow : OpenClaim := { program := "ytplcpdjabjjfiaa", sum := "52b8da493ef5678215460c24dec103decdfe1100dae35988dbf59957712aaf9e", func := "soundservice/soundservicelaw07.MatrixDefaults", spec := "matrixDefaults", apart := false }
def MatrixDefaultsSaid : Prop := matrixDefaultsRow.holds Try.pinned (OpenSpec.ofChange matrixDefaultsSpec)

/-- ITS FALSE NEIGHBOUR: 'it returns false'. Refute it at one input. -/
def matrixDefaultsWrong : ChangeSpec := { name := "matrixDefaults", fn := fun _ => fun
  | [d1, d2] => { results := [.lit (.bool false)], args := [d1, d2] }
  | _ => none }
def MatrixDefaultsWrongFalsely : Prop := matrixDefaultsRow.holds Try.pinned (OpenSpec.ofChange matrixDefaultsWrong)

/-- 'soundservicelaw07.MatrixOrder': WHATEVER THE INPUT: true; the input reads as it did. -/
def matrixOrderSpec : ChangeSpec := { name := "matrixOrder", fn := fun _ => fun
  | [d] => { results := [.lit (.bool true)], args := [d] }
  | _ => none }
def matrixOrderRow : OpenClaim := { program := "ytplcpdjabjjfiaa", sum := "52b8da493ef5678215460c24dec103decdfe1100dae35988dbf59957712aaf9e", func := "soundservice/soundservicelaw07.MatrixOrder", spec := "matrixOrder", apart := false }
def MatrixOrderSaid : Prop := matrixOrderRow.holds Try.pinned (OpenSpec.ofChange matrixOrderSpec)

/-- ITS FALSE NEIGHBOUR: 'it returns false'. Refute it at one input. -/
def matrixOrderWrong : ChangeSpec := { name := "matrixOrder", fn := fun _ => fun
  | [d] => { results := [.lit (.bool false)], args := [d] }
  | _ => none }
def MatrixOrderWrongFalsely : Prop := matrixOrderRow.holds Try.pinned (OpenSpec.ofChange matrixOrderWrong)

/-- 'soundservicelaw07.MatrixColumns': WHATEVER THE INPUT: true; the input reads as it did. -/
def matrixColumnsSpec : ChangeSpec := { name := "matrixColumns", fn := fun _ => fun
  | [d1, d2, d3, d4] => { results := [.lit (.bool true)], args := [d1, d2, d3, d4] }
  | _ => none }
def matrixColumnsRow : OpenClaim := { program := "ytplcpdjabjjfiaa", sum := "52b8da493ef5678215460c24dec103decdfe1100dae35988dbf59957712aaf9e", func := "soundservice/soundservicelaw07.MatrixColumns", spec := "matrixColumns", apart := false }
def MatrixColumnsSaid : Prop := matrixColumnsRow.holds Try.pinned (OpenSpec.ofChange matrixColumnsSpec)

/-- ITS FALSE NEIGHBOUR: 'it returns false'. Refute it at one input. -/
def matrixColumnsWrong : ChangeSpec := { name := "matrixColumns", fn := fun _ => fun
  | [d1, d2, d3, d4] => { results := [.lit (.bool false)], args := [d1, d2, d3, d4] }
  | _ => none }
def MatrixColumnsWrongFalsely : Prop := matrixColumnsRow.holds Try.pinned (OpenSpec.ofChange matrixColumnsWrong)

/-- 'soundservicelaw07.MatrixMuls': WHATEVER THE INPUT: true; the input reads as it did. -/
def matrixMulsSpec : ChangeSpec := { name := "matrixMuls", fn := fun _ => fun
  | [d1, d2, d3] => { results := [.lit (.bool true)], args := [d1, d2, d3] }
  | _ => none }
def matrixMulsRow : OpenClaim := { program := "ytplcpdjabjjfiaa", sum := "52b8da493ef5678215460c24dec103decdfe1100dae35988dbf59957712aaf9e", func := "soundservice/soundservicelaw07.MatrixMuls", spec := "matrixMuls", apart := false }
def MatrixMulsSaid : Prop := matrixMulsRow.holds Try.pinned (OpenSpec.ofChange matrixMulsSpec)

/-- ITS FALSE NEIGHBOUR: 'it returns false'. Refute it at one input. -/
def matrixMulsWrong : ChangeSpec := { name := "matrixMuls", fn := fun _ => fun
  | [d1, d2, d3] => { results := [.lit (.bool false)], args := [d1, d2, d3] }
  | _ => none }
def MatrixMulsWrongFalsely : Prop := matrixMulsRow.holds Try.pinned (OpenSpec.ofChange matrixMulsWrong)

/-- 'soundservicelaw07.MatrixIdentity': WHATEVER THE INPUT: true; the input reads as it did. -/
def matrixIdentitySpec : ChangeSpec := { name := "matrixIdentity", fn := fun _ => fun
  | [d] => { results := [.lit (.bool true)], args := [d] }
  | _ => none }
def matrixIdentityRow : OpenClaim := { program := "ytplcpdjabjjfiaa", sum := "52b8da493ef5678215460c24dec103decdfe1100dae35988dbf59957712aaf9e", func := "soundservice/soundservicelaw07.MatrixIdentity", spec := "matrixIdentity", apart := false }
def MatrixIdentitySaid : Prop := matrixIdentityRow.holds Try.pinned (OpenSpec.ofChange matrixIdentitySpec)

/-- ITS FALSE NEIGHBOUR: 'it returns false'. Refute it at one input. -/
def matrixIdentityWrong : ChangeSpec := { name := "matrixIdentity", fn := fun _ => fun
  | [d] => { results := [.lit (.bool false)], args := [d] }
  | _ => none }
def MatrixIdentityWrongFalsely : Prop := matrixIdentityRow.holds Try.pinned (OpenSpec.ofChange matrixIdentityWrong)

/- THE SECOND FORM. 'bulk': how many values and letters a reading holds, each counted each time it is reached (what is shared counts as often as it is met; a slice's spare places count too). A statement '..UptoSaid' is the law's where the arguments, and the package variables that the reading takes, are together of bulk at most 1048576: NARROWER than '..Said'. Prove '..Said' where nothing that the law and all that it calls make is longer than what came in: it says more and counts as full. Else prove '..UptoSaid'. A law counts once. -/
mutual
def uptoBulk {H : Type} : DataW H → Nat
  | .lit (.string bytes) => bytes.length + 1
  | .lit _ => 1
  | .nil => 1
  | .ptr d => uptoBulk d + 1
  | .slice elems spare => uptoBulkAll elems + uptoBulkAll spare + 1
  | .agg parts => uptoBulkAll parts + 1
  | .iface _ d => uptoBulk d + 1
  | .map entries => uptoBulkEntries entries + 1
  | .held _ => 1
def uptoBulkAll {H : Type} : List (DataW H) → Nat
  | [] => 0
  | d :: r => uptoBulk d + uptoBulkAll r
def uptoBulkEntries {H : Type} : List (Lit × DataW H) → Nat
  | [] => 0
  | x :: r => uptoBulkEntry x + uptoBulkEntries r
def uptoBulkEntry {H : Type} : Lit × DataW H → Nat
  | (.string bytes, d) => bytes.length + uptoBulk d + 1
  | (_, d) => uptoBulk d + 1
 end
def uptoSmall : (H : Type) → List (DataW H) → Bool := fun _ ds => decide (uptoBulkAll ds ≤ 1048576)
def OpenSpec.upto (s : _root_.Go.ChangeSpec) : _root_.Go.OpenSpec := { _root_.Go.OpenSpec.ofChange s with cond := some uptoSmall }

/-- 'soundservicelaw07.MatrixApplies', WHERE WHAT IT READS IS OF BULK AT MOST 1048576: true; the input reads as it did. -/
def matrixAppliesUptoRow : OpenClaim := { program := "ytplcpdjabjjfiaa", sum := "52b8da493ef5678215460c24dec103decdfe1100dae35988dbf59957712aaf9e", func := "soundservice/soundservicelaw07.MatrixApplies", spec := "matrixApplies", apart := false, narrowed := true }
def MatrixAppliesUptoSaid : Prop := matrixAppliesUptoRow.holds Try.pinned (OpenSpec.upto matrixAppliesSpec)

/-- 'soundservicelaw07.MatrixDefaults', WHERE WHAT IT READS IS OF BULK AT MOST 1048576: true; the input reads as it did. -/
def matrixDefaultsUptoRow : OpenClaim := { program := "ytplcpdjabjjfiaa", sum := "52b8da493ef5678215460c24dec103decdfe1100dae35988dbf59957712aaf9e", func := "soundservice/soundservicelaw07.MatrixDefaults", spec := "matrixDefaults", apart := false, narrowed := true }
def MatrixDefaultsUptoSaid : Prop := matrixDefaultsUptoRow.holds Try.pinned (OpenSpec.upto matrixDefaultsSpec)

/-- 'soundservicelaw07.MatrixOrder', WHERE WHAT IT READS IS OF BULK AT MOST 1048576: true; the input reads as it did. -/
def matrixOrderUptoRow : OpenClaim := { program := "ytplcpdjabjjfiaa", sum := "52b8da493ef5678215460c24dec103decdfe1100dae35988dbf59957712aaf9e", func := "soundservice/soundservicelaw07.MatrixOrder", spec := "matrixOrder", apart := false, narrowed := true }
def MatrixOrderUptoSaid : Prop := matrixOrderUptoRow.holds Try.pinned (OpenSpec.upto matrixOrderSpec)

/-- 'soundservicelaw07.MatrixColumns', WHERE WHAT IT READS IS OF BULK AT MOST 1048576: true; the input reads as it did. -/
def matrixColumnsUptoRow : OpenClaim := { program := "ytplcpdjabjjfiaa", sum := "52b8da493ef5678215460c24dec103decdfe1100dae35988dbf59957712aaf9e", func := "soundservice/soundservicelaw07.MatrixColumns", spec := "matrixColumns", apart := false, narrowed := true }
def MatrixColumnsUptoSaid : Prop := matrixColumnsUptoRow.holds Try.pinned (OpenSpec.upto matrixColumnsSpec)

/-- 'soundservicelaw07.MatrixMuls', WHERE WHAT IT READS IS OF BULK AT MOST 1048576: true; the input reads as it did. -/
def matrixMulsUptoRow : OpenClaim := { program := "ytplcpdjabjjfiaa", sum := "52b8da493ef5678215460c24dec103decdfe1100dae35988dbf59957712aaf9e", func := "soundservice/soundservicelaw07.MatrixMuls", spec := "matrixMuls", apart := false, narrowed := true }
def MatrixMulsUptoSaid : Prop := matrixMulsUptoRow.holds Try.pinned (OpenSpec.upto matrixMulsSpec)

/-- 'soundservicelaw07.MatrixIdentity', WHERE WHAT IT READS IS OF BULK AT MOST 1048576: true; the input reads as it did. -/
def matrixIdentityUptoRow : OpenClaim := { program := "ytplcpdjabjjfiaa", sum := "52b8da493ef5678215460c24dec103decdfe1100dae35988dbf59957712aaf9e", func := "soundservice/soundservicelaw07.MatrixIdentity", spec := "matrixIdentity", apart := false, narrowed := true }
def MatrixIdentityUptoSaid : Prop := matrixIdentityUptoRow.holds Try.pinned (OpenSpec.upto matrixIdentitySpec)

end Rows
end Go.Proofs.Ytplcpdjabjjfiaa
