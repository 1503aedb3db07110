/-
  No cell of these rows narrows 'for every input' (looked for: loops, veiled, ifaces, maps, wideKeys, modest, calm, conditions, laid).
  DERIVED. THE GIVEN ROWS OF THIS SEAT. 6 by the template 'for every input the law returns true; each argument reads behind the call as it read before'; 0 by the template 'total and deterministic' (their statements: YtcpidomblalmpaaTotals.lean).
  GIVEN WITH THE SEED: the statements are not yours to turn. If you find one false, say at which input.
  Laid BY PROGRAM, IN A SANDBOX (cutbox-rows.mjs): the forced cells as the released guide's own fill.sh prints them over the translation f4da1f57e26c9793… (all of the seat's roots in one cut). By AI agents, Wed Nov 11 2026. No macro, syntax, notation, axiom, sorry.
-/
import Derived.Test.YtcpidomblalmpaaChecked
import GoSem.Claim
import GoSem.ClaimJoined
import GoSem.ClaimMapViews
import Derived.JoinedTies
import Derived.KernelRfl
namespace Go.Proofs.Ytcpidomblalmpaa
/- THE CELL 'sum', in the pinned program and in every row, IS THE sha256 OF THE DUMP (.gsa) THAT YtcpidomblalmpaaProg.lean LOADS. Nothing in Lean hashes anything: it is a label: what it is worth is what the hold of that sum in a sandbox is worth. -/
noncomputable def Try.pinned : Pinned := { name := "ytcpidomblalmpaa", sum := "f4da1f57e26c9793befb63b2005e5630b79ba4f4e208e42a9534dff6ad2f9b0e", checked := Try.checked }
namespace Rows
def none {H : Type} : Left H := { results := [], args := [] }

/-- 'soundservicelaw14.PhaseExact': WHATEVER THE INPUT: true; the input reads as it did. -/
def phaseExactSpec : ChangeSpec := { name := "phaseExact", fn := fun _ => fun
  | [d1, d2] => { results := [.lit (.bool true)], args := [d1, d2] }
  | _ => none }
def phaseExactRow : OpenClaim := { program := "ytcpidomblalmpaa", sum := "f4da1f57e26c9793befb63b2005e5630b79ba4f4e208e42a9534dff6ad2f9b0e", func := "soundservice/soundservicelaw14.PhaseExact", spec := "phaseExact", apart := false }
def PhaseExactSaid : Prop := phaseExactRow.holds Try.pinned (OpenSpec.ofChange phaseExactSpec)

/-- ITS FALSE NEIGHBOUR: 'it returns false'. Refute it at one input. -/
def phaseExactWrong : ChangeSpec := { name := "phaseExact", fn := fun _ => fun
  | [d1, d2] => { results := [.lit (.bool false)], args := [d1, d2] }
  | _ => none }
def PhaseExactWrongFalsely : Prop := phaseExactRow.holds Try.pinned (OpenSpec.ofChange phaseExactWrong)

/-- 'soundservicelaw14.PhaseMoves': WHATEVER THE INPUT: true; the input reads as it did. -/
def phaseMovesSpec : ChangeSpec := { name := "phaseMoves", fn := fun _ => fun
  | [d1, d2, d3, d4, d5] => { results := [.lit (.bool true)], args := [d1, d2, d3, d4, d5] }
  | _ => none }
def phaseMovesRow : OpenClaim := { program := "ytcpidomblalmpaa", sum := "f4da1f57e26c9793befb63b2005e5630b79ba4f4e208e42a9534dff6ad2f9b0e", func := "soundservice/soundservicelaw14.PhaseMoves", spec := "phaseMoves", apart := false }
def PhaseMovesSaid : Prop := phaseMovesRow.holds Try.pinned (OpenSpec.ofChange phaseMovesSpec)

/-- ITS FALSE NEIGHBOUR: 'it returns false'. Refute it at one input. -/
def phaseMovesWrong : ChangeSpec := { name := "phaseMoves", fn := fun _ => fun
  | [d1, d2, d3, d4, d5] => { results := [.lit (.bool false)], args := [d1, d2, d3, d4, d5] }
  | _ => none }
def PhaseMovesWrongFalsely : Prop := phaseMovesRow.holds Try.pinned (OpenSpec.ofChange phaseMovesWrong)

/-- 'soundservicelaw14.PhaseAdds': WHATEVER THE INPUT: true; the input reads as it did. -/
def phaseAddsSpec : ChangeSpec := { name := "phaseAdds", fn := fun _ => fun
  | [d1, d2, d3, d4] => { results := [.lit (.bool true)], args := [d1, d2, d3, d4] }
  | _ => none }
def phaseAddsRow : OpenClaim := { program := "ytcpidomblalmpaa", sum := "f4da1f57e26c9793befb63b2005e5630b79ba4f4e208e42a9534dff6ad2f9b0e", func := "soundservice/soundservicelaw14.PhaseAdds", spec := "phaseAdds", apart := false }
def PhaseAddsSaid : Prop := phaseAddsRow.holds Try.pinned (OpenSpec.ofChange phaseAddsSpec)

/-- ITS FALSE NEIGHBOUR: 'it returns false'. Refute it at one input. -/
def phaseAddsWrong : ChangeSpec := { name := "phaseAdds", fn := fun _ => fun
  | [d1, d2, d3, d4] => { results := [.lit (.bool false)], args := [d1, d2, d3, d4] }
  | _ => none }
def PhaseAddsWrongFalsely : Prop := phaseAddsRow.holds Try.pinned (OpenSpec.ofChange phaseAddsWrong)

/-- 'soundservicelaw14.PhaseNeeds': WHATEVER THE INPUT: true; the input reads as it did. -/
def phaseNeedsSpec : ChangeSpec := { name := "phaseNeeds", fn := fun _ => fun
  | [d1, d2, d3, d4] => { results := [.lit (.bool true)], args := [d1, d2, d3, d4] }
  | _ => none }
def phaseNeedsRow : OpenClaim := { program := "ytcpidomblalmpaa", sum := "f4da1f57e26c9793befb63b2005e5630b79ba4f4e208e42a9534dff6ad2f9b0e", func := "soundservice/soundservicelaw14.PhaseNeeds", spec := "phaseNeeds", unfollowed := true, recurses := true, apart := false }
def PhaseNeedsSaid : Prop := phaseNeedsRow.holds Try.pinned (OpenSpec.ofChange phaseNeedsSpec)

/-- ITS FALSE NEIGHBOUR: 'it returns false'. Refute it at one input. -/
def phaseNeedsWrong : ChangeSpec := { name := "phaseNeeds", fn := fun _ => fun
  | [d1, d2, d3, d4] => { results := [.lit (.bool false)], args := [d1, d2, d3, d4] }
  | _ => none }
def PhaseNeedsWrongFalsely : Prop := phaseNeedsRow.holds Try.pinned (OpenSpec.ofChange phaseNeedsWrong)

/-- 'soundservicelaw14.PhaseGalois': WHATEVER THE INPUT: true; the input reads as it did. -/
def phaseGaloisSpec : ChangeSpec := { name := "phaseGalois", fn := fun _ => fun
  | [d1, d2, d3] => { results := [.lit (.bool true)], args := [d1, d2, d3] }
  | _ => none }
def phaseGaloisRow : OpenClaim := { program := "ytcpidomblalmpaa", sum := "f4da1f57e26c9793befb63b2005e5630b79ba4f4e208e42a9534dff6ad2f9b0e", func := "soundservice/soundservicelaw14.PhaseGalois", spec := "phaseGalois", unfollowed := true, recurses := true, apart := false }
def PhaseGaloisSaid : Prop := phaseGaloisRow.holds Try.pinned (OpenSpec.ofChange phaseGaloisSpec)

/-- ITS FALSE NEIGHBOUR: 'it returns false'. Refute it at one input. -/
def phaseGaloisWrong : ChangeSpec := { name := "phaseGalois", fn := fun _ => fun
  | [d1, d2, d3] => { results := [.lit (.bool false)], args := [d1, d2, d3] }
  | _ => none }
def PhaseGaloisWrongFalsely : Prop := phaseGaloisRow.holds Try.pinned (OpenSpec.ofChange phaseGaloisWrong)

/-- 'soundservicelaw14.PhaseTunes': WHATEVER THE INPUT: true; the input reads as it did. -/
def phaseTunesSpec : ChangeSpec := { name := "phaseTunes", fn := fun _ => fun
  | [d1, d2, d3, d4] => { results := [.lit (.bool true)], args := [d1, d2, d3, d4] }
  | _ => none }
def phaseTunesRow : OpenClaim := { program := "ytcpidomblalmpaa", sum := "f4da1f57e26c9793befb63b2005e5630b79ba4f4e208e42a9534dff6ad2f9b0e", func := "soundservice/soundservicelaw14.PhaseTunes", spec := "phaseTunes", unfollowed := true, recurses := true, apart := false }
def PhaseTunesSaid : Prop := phaseTunesRow.holds Try.pinned (OpenSpec.ofChange phaseTunesSpec)

/-- ITS FALSE NEIGHBOUR: 'it returns false'. Refute it at one input. -/
def phaseTunesWrong : ChangeSpec := { name := "phaseTunes", fn := fun _ => fun
  | [d1, d2, d3, d4] => { results := [.lit (.bool false)], args := [d1, d2, d3, d4] }
  | _ => none }
def PhaseTunesWrongFalsely : Prop := phaseTunesRow.holds Try.pinned (OpenSpec.ofChange phaseTunesWrong)

/- THE SECOND FORM. 'bulk': how many values and letters a reading holds, each counted each time it is reached (what is shared counts as often as it is met; a slice's spare places count too). A statement '..UptoSaid' is the law's where the arguments, and the package variables that the reading takes, are together of bulk at most 1048576: NARROWER than '..Said'. Prove '..Said' where nothing that the law and all that it calls make is longer than what came in: it says more and counts as full. Else prove '..UptoSaid'. A law counts once. -/
mutual
def uptoBulk {H : Type} : DataW H → Nat
  | .lit (.string bytes) => bytes.length + 1
  | .lit _ => 1
  | .nil => 1
  | .ptr d => uptoBulk d + 1
  | .slice elems spare => uptoBulkAll elems + uptoBulkAll spare + 1
  | .agg parts => uptoBulkAll parts + 1
  | .iface _ d => uptoBulk d + 1
  | .map entries => uptoBulkEntries entries + 1
  | .held _ => 1
def uptoBulkAll {H : Type} : List (DataW H) → Nat
  | [] => 0
  | d :: r => uptoBulk d + uptoBulkAll r
def uptoBulkEntries {H : Type} : List (Lit × DataW H) → Nat
  | [] => 0
  | x :: r => uptoBulkEntry x + uptoBulkEntries r
def uptoBulkEntry {H : Type} : Lit × DataW H → Nat
  | (.string bytes, d) => bytes.length + uptoBulk d + 1
  | (_, d) => uptoBulk d + 1
 end
def uptoSmall : (H : Type) → List (DataW H) → Bool := fun _ ds => decide (uptoBulkAll ds ≤ 1048576)
def OpenSpec.upto (s : _root_.Go.ChangeSpec) : _root_.Go.OpenSpec := { _root_.Go.OpenSpec.ofChange s with cond := some uptoSmall }

/-- 'soundservicelaw14.PhaseExact', WHERE WHAT IT READS IS OF BULK AT MOST 1048576: true; the input reads as it did. -/
def phaseExactUptoRow : OpenClaim := { program := "ytcpidomblalmpaa", sum := "f4da1f57e26c9793befb63b2005e5630b79ba4f4e208e42a9534dff6ad2f9b0e", func := "soundservice/soundservicelaw14.PhaseExact", spec := "phaseExact", apart := false, narrowed := true }
def PhaseExactUptoSaid : Prop := phaseExactUptoRow.holds Try.pinned (OpenSpec.upto phaseExactSpec)

/-- 'soundservicelaw14.PhaseMoves', WHERE WHAT IT READS IS OF BULK AT MOST 1048576: true; the input reads as it did. -/
def phaseMovesUptoRow : OpenClaim := { program := "ytcpidomblalmpaa", sum := "f4da1f57e26c9793befb63b2005e5630b79ba4f4e208e42a9534dff6ad2f9b0e", func := "soundservice/soundservicelaw14.PhaseMoves", spec := "phaseMoves", apart := false, narrowed := true }
def PhaseMovesUptoSaid : Prop := phaseMovesUptoRow.holds Try.pinned (OpenSpec.upto phaseMovesSpec)

/-- 'soundservicelaw14.PhaseAdds', WHERE WHAT IT READS IS OF BULK AT MOST 1048576: true; the input reads as it did. -/
def phaseAddsUptoRow : OpenClaim := { program := "ytcpidomblalmpaa", sum := "f4da1f57e26c9793befb63b2005e5630b79ba4f4e208e42a9534dff6ad2f9b0e", func := "soundservice/soundservicelaw14.PhaseAdds", spec := "phaseAdds", apart := false, narrowed := true }
def PhaseAddsUptoSaid : Prop := phaseAddsUptoRow.holds Try.pinned (OpenSpec.upto phaseAddsSpec)

/-- 'soundservicelaw14.PhaseNeeds', WHERE WHAT IT READS IS OF BULK AT MOST 1048576: true; the input reads as it did. -/
def phaseNeedsUptoRow : OpenClaim := { program := "ytcpidomblalmpaa", sum := "f4da1f57e26c9793befb63b2005e5630b79ba4f4e208e42a9534dff6ad2f9b0e", func := "soundservice/soundservicelaw14.PhaseNeeds", spec := "phaseNeeds", unfollowed := true, recurses := true, apart := false, narrowed := true }
def PhaseNeedsUptoSaid : Prop := phaseNeedsUptoRow.holds Try.pinned (OpenSpec.upto phaseNeedsSpec)

/-- 'soundservicelaw14.PhaseGalois', WHERE WHAT IT READS IS OF BULK AT MOST 1048576: true; the input reads as it did. -/
def phaseGaloisUptoRow : OpenClaim := { program := "ytcpidomblalmpaa", sum := "f4da1f57e26c9793befb63b2005e5630b79ba4f4e208e42a9534dff6ad2f9b0e", func := "soundservice/soundservicelaw14.PhaseGalois", spec := "phaseGalois", unfollowed := true, recurses := true, apart := false, narrowed := true }
def PhaseGaloisUptoSaid : Prop := phaseGaloisUptoRow.holds Try.pinned (OpenSpec.upto phaseGaloisSpec)

/-- 'soundservicelaw14.PhaseTunes', WHERE WHAT IT READS IS OF BULK AT MOST 1048576: true; the input reads as it did. -/
def phaseTunesUptoRow : OpenClaim := { program := "ytcpidomblalmpaa", sum := "f4da1f57e26c9793befb63b2005e5630b79ba4f4e208e42a9534dff6ad2f9b0e", func := "soundservice/soundservicelaw14.PhaseTunes", spec := "phaseTunes", unfollowed := true, recurses := true, apart := false, narrowed := true }
def PhaseTunesUptoSaid : Prop := phaseTunesUptoRow.holds Try.pinned (OpenSpec.upto phaseTunesSpec)

end Rows
end Go.Proofs.Ytcpidomblalmpaa
