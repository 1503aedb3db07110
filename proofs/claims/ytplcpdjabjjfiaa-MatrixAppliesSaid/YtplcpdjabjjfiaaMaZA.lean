/- MatrixApplies holds for every input: which matrices are valid, and the blocks that they make, or the error. -/
import Derived.Test.YtplcpdjabjjfiaaMaS
import Derived.Test.YtplcpdjabjjfiaaAmRow
import Derived.Test.YtplcpdjabjjfiaaRows
namespace Go.Proofs.Ytplcpdjabjjfiaa
open Am
set_option maxRecDepth 100000
set_option linter.unusedVariables false
set_option linter.unusedSimpArgs false
open Go.ChangeShapes Go.WideShapes Go.ChangeAt Go.RowKit
theorem own : ownKnob Try.prog.godebug = none := by kernel_rfl
theorem laidOut : laidOutB Try.prog = true := by kernel_rfl
theorem byt_of_wf {l : List Int} (h : ∀ n ∈ l, (Lit.int .u8 n).wf = true) : M.byt l = true := by
  simp only [M.byt, List.all_eq_true]
  intro n hn
  have := h n hn
  simpa [Lit.wf, IntKind.min, IntKind.max, IntKind.signed, IntKind.bits] using this

theorem apR_len {n m : Int} {co : List Int} {c : Int} {l : List Int} (hl : l.length < 4294967296) : (M.apR n m co c l).length < 4294967296 := by
  unfold M.apR M.apE
  cases hm : M.mtxV n m co with
  | false => exact Nat.zero_lt_succ _
  | true =>
  cases hv : M.valid c l with
  | false => exact Nat.zero_lt_succ _
  | true =>
  cases hn : (c != n) with
  | true => exact Nat.zero_lt_succ _
  | false =>
  show (M.apD n m co l (l.length / n.toNat)).length < 4294967296
  rw [apD_length]
  obtain ⟨_, _, _, h4, _⟩ := valid_ok hl hv
  have h5 := (mtxV_ok hm).1
  unfold M.okRw at h5
  simp only [Bool.and_eq_true, decide_eq_true_eq] at h5
  have := Nat.mul_le_mul (show l.length / n.toNat ≤ 524288 from Nat.le_trans (Nat.div_le_self _ _) h4) (show m.toNat ≤ 8 by omega)
  omega
theorem law_facts {s : List Int} (hs : M.byt s = true) (l' : List Int) : M.okM (M.w64 (1 + M.nextV 3 (List.take 300 s))) (M.w64 (1 + M.nextV 3 (M.nextL 3 (List.take 300 s)))) = true ∧ M.okB (M.w64 (1 + M.nextV 3 (List.take 300 s))) 4 = true ∧ M.byt (M.nextL 3 (M.nextL 3 (List.take 300 s))) = true := by
  have h0 := byt_take 300 hs
  have h1 := byt_next (n := 3) h0
  have r0 := next_range (n := 3) (by omega) h0
  have r1 := next_range (n := 3) (by omega) h1
  rw [w64_in (by omega) (by omega), w64_in (by omega) (by omega)]
  refine ⟨?_, ?_, byt_next h1⟩
  · unfold M.okM
    rw [decide_eq_true (by omega), decide_eq_true (by omega), decide_eq_true (by omega), decide_eq_true (by omega)]
    rfl
  · unfold M.okB
    rw [decide_eq_true (by omega), decide_eq_true (by omega)]
    rfl
theorem e_law (n m c k : Int) (co l s : List Int) (hs : M.byt s = true) : callB z1 noCall 10 3 [.agg [.int .i64 n, .int .i64 m, .vi .i64 co], .agg [.int .i64 c, .vi .i32 l], .vi .u8 s, .int .i64 k] [] 0 = some (.bool true, [], 0) := by
  refine (show callB z1 noCall 10 3 [.agg [.int .i64 n, .int .i64 m, .vi .i64 co], .agg [.int .i64 c, .vi .i32 l], .vi .u8 s, .int .i64 k] [] 0 = (bif !!decide ((co.length : Int) ≤ 100) then bif !decide ((l.length : Int) ≤ 200) then some (AV.bool true, [], 0) else bif M.okM (M.w64 (1 + M.nextV 3 (List.take 300 s))) (M.w64 (1 + M.nextV 3 (M.nextL 3 (List.take 300 s)))) && M.byt (M.nextL 3 (M.nextL 3 (List.take 300 s))) && true then bif M.okB (M.w64 (1 + M.nextV 3 (List.take 300 s))) 4 && true then bif decide (co.length < 4294967296) && decide (l.length < 4294967296) && true then bif decide (co.length < 4294967296) && decide (l.length < 4294967296) && true then bif decide (co.length < 4294967296) && true then bif decide (co.length < 4294967296) && true then bif !!M.mtxV n m co == M.mtxV n m co then bif !M.apE n m co c l != M.apE n m co c l then bif decide ((M.apR n m co c l).length < 4294967296) && true then bif !M.sameB (M.apO n m co c l) (M.apR n m co c l) (M.apO n m co c l) (M.apR n m co c l) then some (AV.bool false, [], 0) else bif decide (co.length < 4294967296) && decide ((M.blkD (M.bN (M.w64 (1 + M.nextV 3 (List.take 300 s))) 4) (M.matL ((M.w64 (1 + M.nextV 3 (List.take 300 s))) * (M.w64 (1 + M.nextV 3 (M.nextL 3 (List.take 300 s))))).toNat (M.nextL 3 (M.nextL 3 (List.take 300 s))))).length < 4294967296) && true then bif decide (co.length < 4294967296) && decide ((M.blkD (M.bN (M.w64 (1 + M.nextV 3 (List.take 300 s))) 4) (M.matL ((M.w64 (1 + M.nextV 3 (List.take 300 s))) * (M.w64 (1 + M.nextV 3 (M.nextL 3 (List.take 300 s))))).toNat (M.nextL 3 (M.nextL 3 (List.take 300 s))))).length < 4294967296) && true then bif decide (co.length < 4294967296) && true then bif decide (co.length < 4294967296) && true then bif !!M.mtxV n m co == M.mtxV n m co then bif !M.apE n m co (M.w64 (1 + M.nextV 3 (List.take 300 s))) (M.blkD (M.bN (M.w64 (1 + M.nextV 3 (List.take 300 s))) 4) (M.matL ((M.w64 (1 + M.nextV 3 (List.take 300 s))) * (M.w64 (1 + M.nextV 3 (M.nextL 3 (List.take 300 s))))).toNat (M.nextL 3 (M.nextL 3 (List.take 300 s))))) != M.apE n m co (M.w64 (1 + M.nextV 3 (List.take 300 s))) (M.blkD (M.bN (M.w64 (1 + M.nextV 3 (List.take 300 s))) 4) (M.matL ((M.w64 (1 + M.nextV 3 (List.take 300 s))) * (M.w64 (1 + M.nextV 3 (M.nextL 3 (List.take 300 s))))).toNat (M.nextL 3 (M.nextL 3 (List.take 300 s))))) then bif decide ((M.apR n m co (M.w64 (1 + M.nextV 3 (List.take 300 s))) (M.blkD (M.bN (M.w64 (1 + M.nextV 3 (List.take 300 s))) 4) (M.matL ((M.w64 (1 + M.nextV 3 (List.take 300 s))) * (M.w64 (1 + M.nextV 3 (M.nextL 3 (List.take 300 s))))).toNat (M.nextL 3 (M.nextL 3 (List.take 300 s)))))).length < 4294967296) && true then bif !M.sameB (M.apO n m co (M.w64 (1 + M.nextV 3 (List.take 300 s))) (M.blkD (M.bN (M.w64 (1 + M.nextV 3 (List.take 300 s))) 4) (M.matL ((M.w64 (1 + M.nextV 3 (List.take 300 s))) * (M.w64 (1 + M.nextV 3 (M.nextL 3 (List.take 300 s))))).toNat (M.nextL 3 (M.nextL 3 (List.take 300 s)))))) (M.apR n m co (M.w64 (1 + M.nextV 3 (List.take 300 s))) (M.blkD (M.bN (M.w64 (1 + M.nextV 3 (List.take 300 s))) 4) (M.matL ((M.w64 (1 + M.nextV 3 (List.take 300 s))) * (M.w64 (1 + M.nextV 3 (M.nextL 3 (List.take 300 s))))).toNat (M.nextL 3 (M.nextL 3 (List.take 300 s)))))) (M.apO n m co (M.w64 (1 + M.nextV 3 (List.take 300 s))) (M.blkD (M.bN (M.w64 (1 + M.nextV 3 (List.take 300 s))) 4) (M.matL ((M.w64 (1 + M.nextV 3 (List.take 300 s))) * (M.w64 (1 + M.nextV 3 (M.nextL 3 (List.take 300 s))))).toNat (M.nextL 3 (M.nextL 3 (List.take 300 s)))))) (M.apR n m co (M.w64 (1 + M.nextV 3 (List.take 300 s))) (M.blkD (M.bN (M.w64 (1 + M.nextV 3 (List.take 300 s))) 4) (M.matL ((M.w64 (1 + M.nextV 3 (List.take 300 s))) * (M.w64 (1 + M.nextV 3 (M.nextL 3 (List.take 300 s))))).toNat (M.nextL 3 (M.nextL 3 (List.take 300 s)))))) then some (AV.bool false, [], 0) else bif M.okB (M.w64 (1 + M.nextV 3 (List.take 300 s))) 4 && true then bif decide ((M.matD ((M.w64 (1 + M.nextV 3 (List.take 300 s))) * (M.w64 (1 + M.nextV 3 (M.nextL 3 (List.take 300 s))))).toNat (M.nextL 3 (M.nextL 3 (List.take 300 s)))).length < 4294967296) && decide (l.length < 4294967296) && true then bif decide ((M.matD ((M.w64 (1 + M.nextV 3 (List.take 300 s))) * (M.w64 (1 + M.nextV 3 (M.nextL 3 (List.take 300 s))))).toNat (M.nextL 3 (M.nextL 3 (List.take 300 s)))).length < 4294967296) && decide (l.length < 4294967296) && true then bif decide ((M.matD ((M.w64 (1 + M.nextV 3 (List.take 300 s))) * (M.w64 (1 + M.nextV 3 (M.nextL 3 (List.take 300 s))))).toNat (M.nextL 3 (M.nextL 3 (List.take 300 s)))).length < 4294967296) && true then bif decide ((M.matD ((M.w64 (1 + M.nextV 3 (List.take 300 s))) * (M.w64 (1 + M.nextV 3 (M.nextL 3 (List.take 300 s))))).toNat (M.nextL 3 (M.nextL 3 (List.take 300 s)))).length < 4294967296) && true then bif !!M.mtxV (M.w64 (1 + M.nextV 3 (List.take 300 s))) (M.w64 (1 + M.nextV 3 (M.nextL 3 (List.take 300 s)))) (M.matD ((M.w64 (1 + M.nextV 3 (List.take 300 s))) * (M.w64 (1 + M.nextV 3 (M.nextL 3 (List.take 300 s))))).toNat (M.nextL 3 (M.nextL 3 (List.take 300 s)))) == M.mtxV (M.w64 (1 + M.nextV 3 (List.take 300 s))) (M.w64 (1 + M.nextV 3 (M.nextL 3 (List.take 300 s)))) (M.matD ((M.w64 (1 + M.nextV 3 (List.take 300 s))) * (M.w64 (1 + M.nextV 3 (M.nextL 3 (List.take 300 s))))).toNat (M.nextL 3 (M.nextL 3 (List.take 300 s)))) then bif !M.apE (M.w64 (1 + M.nextV 3 (List.take 300 s))) (M.w64 (1 + M.nextV 3 (M.nextL 3 (List.take 300 s)))) (M.matD ((M.w64 (1 + M.nextV 3 (List.take 300 s))) * (M.w64 (1 + M.nextV 3 (M.nextL 3 (List.take 300 s))))).toNat (M.nextL 3 (M.nextL 3 (List.take 300 s)))) c l != M.apE (M.w64 (1 + M.nextV 3 (List.take 300 s))) (M.w64 (1 + M.nextV 3 (M.nextL 3 (List.take 300 s)))) (M.matD ((M.w64 (1 + M.nextV 3 (List.take 300 s))) * (M.w64 (1 + M.nextV 3 (M.nextL 3 (List.take 300 s))))).toNat (M.nextL 3 (M.nextL 3 (List.take 300 s)))) c l then bif decide ((M.apR (M.w64 (1 + M.nextV 3 (List.take 300 s))) (M.w64 (1 + M.nextV 3 (M.nextL 3 (List.take 300 s)))) (M.matD ((M.w64 (1 + M.nextV 3 (List.take 300 s))) * (M.w64 (1 + M.nextV 3 (M.nextL 3 (List.take 300 s))))).toNat (M.nextL 3 (M.nextL 3 (List.take 300 s)))) c l).length < 4294967296) && true then bif !M.sameB (M.apO (M.w64 (1 + M.nextV 3 (List.take 300 s))) (M.w64 (1 + M.nextV 3 (M.nextL 3 (List.take 300 s)))) (M.matD ((M.w64 (1 + M.nextV 3 (List.take 300 s))) * (M.w64 (1 + M.nextV 3 (M.nextL 3 (List.take 300 s))))).toNat (M.nextL 3 (M.nextL 3 (List.take 300 s)))) c l) (M.apR (M.w64 (1 + M.nextV 3 (List.take 300 s))) (M.w64 (1 + M.nextV 3 (M.nextL 3 (List.take 300 s)))) (M.matD ((M.w64 (1 + M.nextV 3 (List.take 300 s))) * (M.w64 (1 + M.nextV 3 (M.nextL 3 (List.take 300 s))))).toNat (M.nextL 3 (M.nextL 3 (List.take 300 s)))) c l) (M.apO (M.w64 (1 + M.nextV 3 (List.take 300 s))) (M.w64 (1 + M.nextV 3 (M.nextL 3 (List.take 300 s)))) (M.matD ((M.w64 (1 + M.nextV 3 (List.take 300 s))) * (M.w64 (1 + M.nextV 3 (M.nextL 3 (List.take 300 s))))).toNat (M.nextL 3 (M.nextL 3 (List.take 300 s)))) c l) (M.apR (M.w64 (1 + M.nextV 3 (List.take 300 s))) (M.w64 (1 + M.nextV 3 (M.nextL 3 (List.take 300 s)))) (M.matD ((M.w64 (1 + M.nextV 3 (List.take 300 s))) * (M.w64 (1 + M.nextV 3 (M.nextL 3 (List.take 300 s))))).toNat (M.nextL 3 (M.nextL 3 (List.take 300 s)))) c l) then some (AV.bool false, [], 0) else bif decide ((M.matD ((M.w64 (1 + M.nextV 3 (List.take 300 s))) * (M.w64 (1 + M.nextV 3 (M.nextL 3 (List.take 300 s))))).toNat (M.nextL 3 (M.nextL 3 (List.take 300 s)))).length < 4294967296) && decide ((M.blkD (M.bN (M.w64 (1 + M.nextV 3 (List.take 300 s))) 4) (M.blkL (M.bN (M.w64 (1 + M.nextV 3 (List.take 300 s))) 4) (M.matL ((M.w64 (1 + M.nextV 3 (List.take 300 s))) * (M.w64 (1 + M.nextV 3 (M.nextL 3 (List.take 300 s))))).toNat (M.nextL 3 (M.nextL 3 (List.take 300 s)))))).length < 4294967296) && true then bif decide ((M.matD ((M.w64 (1 + M.nextV 3 (List.take 300 s))) * (M.w64 (1 + M.nextV 3 (M.nextL 3 (List.take 300 s))))).toNat (M.nextL 3 (M.nextL 3 (List.take 300 s)))).length < 4294967296) && decide ((M.blkD (M.bN (M.w64 (1 + M.nextV 3 (List.take 300 s))) 4) (M.blkL (M.bN (M.w64 (1 + M.nextV 3 (List.take 300 s))) 4) (M.matL ((M.w64 (1 + M.nextV 3 (List.take 300 s))) * (M.w64 (1 + M.nextV 3 (M.nextL 3 (List.take 300 s))))).toNat (M.nextL 3 (M.nextL 3 (List.take 300 s)))))).length < 4294967296) && true then bif decide ((M.matD ((M.w64 (1 + M.nextV 3 (List.take 300 s))) * (M.w64 (1 + M.nextV 3 (M.nextL 3 (List.take 300 s))))).toNat (M.nextL 3 (M.nextL 3 (List.take 300 s)))).length < 4294967296) && true then bif decide ((M.matD ((M.w64 (1 + M.nextV 3 (List.take 300 s))) * (M.w64 (1 + M.nextV 3 (M.nextL 3 (List.take 300 s))))).toNat (M.nextL 3 (M.nextL 3 (List.take 300 s)))).length < 4294967296) && true then bif !!M.mtxV (M.w64 (1 + M.nextV 3 (List.take 300 s))) (M.w64 (1 + M.nextV 3 (M.nextL 3 (List.take 300 s)))) (M.matD ((M.w64 (1 + M.nextV 3 (List.take 300 s))) * (M.w64 (1 + M.nextV 3 (M.nextL 3 (List.take 300 s))))).toNat (M.nextL 3 (M.nextL 3 (List.take 300 s)))) == M.mtxV (M.w64 (1 + M.nextV 3 (List.take 300 s))) (M.w64 (1 + M.nextV 3 (M.nextL 3 (List.take 300 s)))) (M.matD ((M.w64 (1 + M.nextV 3 (List.take 300 s))) * (M.w64 (1 + M.nextV 3 (M.nextL 3 (List.take 300 s))))).toNat (M.nextL 3 (M.nextL 3 (List.take 300 s)))) then bif !M.apE (M.w64 (1 + M.nextV 3 (List.take 300 s))) (M.w64 (1 + M.nextV 3 (M.nextL 3 (List.take 300 s)))) (M.matD ((M.w64 (1 + M.nextV 3 (List.take 300 s))) * (M.w64 (1 + M.nextV 3 (M.nextL 3 (List.take 300 s))))).toNat (M.nextL 3 (M.nextL 3 (List.take 300 s)))) (M.w64 (1 + M.nextV 3 (List.take 300 s))) (M.blkD (M.bN (M.w64 (1 + M.nextV 3 (List.take 300 s))) 4) (M.blkL (M.bN (M.w64 (1 + M.nextV 3 (List.take 300 s))) 4) (M.matL ((M.w64 (1 + M.nextV 3 (List.take 300 s))) * (M.w64 (1 + M.nextV 3 (M.nextL 3 (List.take 300 s))))).toNat (M.nextL 3 (M.nextL 3 (List.take 300 s)))))) != M.apE (M.w64 (1 + M.nextV 3 (List.take 300 s))) (M.w64 (1 + M.nextV 3 (M.nextL 3 (List.take 300 s)))) (M.matD ((M.w64 (1 + M.nextV 3 (List.take 300 s))) * (M.w64 (1 + M.nextV 3 (M.nextL 3 (List.take 300 s))))).toNat (M.nextL 3 (M.nextL 3 (List.take 300 s)))) (M.w64 (1 + M.nextV 3 (List.take 300 s))) (M.blkD (M.bN (M.w64 (1 + M.nextV 3 (List.take 300 s))) 4) (M.blkL (M.bN (M.w64 (1 + M.nextV 3 (List.take 300 s))) 4) (M.matL ((M.w64 (1 + M.nextV 3 (List.take 300 s))) * (M.w64 (1 + M.nextV 3 (M.nextL 3 (List.take 300 s))))).toNat (M.nextL 3 (M.nextL 3 (List.take 300 s)))))) then bif decide ((M.apR (M.w64 (1 + M.nextV 3 (List.take 300 s))) (M.w64 (1 + M.nextV 3 (M.nextL 3 (List.take 300 s)))) (M.matD ((M.w64 (1 + M.nextV 3 (List.take 300 s))) * (M.w64 (1 + M.nextV 3 (M.nextL 3 (List.take 300 s))))).toNat (M.nextL 3 (M.nextL 3 (List.take 300 s)))) (M.w64 (1 + M.nextV 3 (List.take 300 s))) (M.blkD (M.bN (M.w64 (1 + M.nextV 3 (List.take 300 s))) 4) (M.blkL (M.bN (M.w64 (1 + M.nextV 3 (List.take 300 s))) 4) (M.matL ((M.w64 (1 + M.nextV 3 (List.take 300 s))) * (M.w64 (1 + M.nextV 3 (M.nextL 3 (List.take 300 s))))).toNat (M.nextL 3 (M.nextL 3 (List.take 300 s))))))).length < 4294967296) && true then bif !M.sameB (M.apO (M.w64 (1 + M.nextV 3 (List.take 300 s))) (M.w64 (1 + M.nextV 3 (M.nextL 3 (List.take 300 s)))) (M.matD ((M.w64 (1 + M.nextV 3 (List.take 300 s))) * (M.w64 (1 + M.nextV 3 (M.nextL 3 (List.take 300 s))))).toNat (M.nextL 3 (M.nextL 3 (List.take 300 s)))) (M.w64 (1 + M.nextV 3 (List.take 300 s))) (M.blkD (M.bN (M.w64 (1 + M.nextV 3 (List.take 300 s))) 4) (M.blkL (M.bN (M.w64 (1 + M.nextV 3 (List.take 300 s))) 4) (M.matL ((M.w64 (1 + M.nextV 3 (List.take 300 s))) * (M.w64 (1 + M.nextV 3 (M.nextL 3 (List.take 300 s))))).toNat (M.nextL 3 (M.nextL 3 (List.take 300 s))))))) (M.apR (M.w64 (1 + M.nextV 3 (List.take 300 s))) (M.w64 (1 + M.nextV 3 (M.nextL 3 (List.take 300 s)))) (M.matD ((M.w64 (1 + M.nextV 3 (List.take 300 s))) * (M.w64 (1 + M.nextV 3 (M.nextL 3 (List.take 300 s))))).toNat (M.nextL 3 (M.nextL 3 (List.take 300 s)))) (M.w64 (1 + M.nextV 3 (List.take 300 s))) (M.blkD (M.bN (M.w64 (1 + M.nextV 3 (List.take 300 s))) 4) (M.blkL (M.bN (M.w64 (1 + M.nextV 3 (List.take 300 s))) 4) (M.matL ((M.w64 (1 + M.nextV 3 (List.take 300 s))) * (M.w64 (1 + M.nextV 3 (M.nextL 3 (List.take 300 s))))).toNat (M.nextL 3 (M.nextL 3 (List.take 300 s))))))) (M.apO (M.w64 (1 + M.nextV 3 (List.take 300 s))) (M.w64 (1 + M.nextV 3 (M.nextL 3 (List.take 300 s)))) (M.matD ((M.w64 (1 + M.nextV 3 (List.take 300 s))) * (M.w64 (1 + M.nextV 3 (M.nextL 3 (List.take 300 s))))).toNat (M.nextL 3 (M.nextL 3 (List.take 300 s)))) (M.w64 (1 + M.nextV 3 (List.take 300 s))) (M.blkD (M.bN (M.w64 (1 + M.nextV 3 (List.take 300 s))) 4) (M.blkL (M.bN (M.w64 (1 + M.nextV 3 (List.take 300 s))) 4) (M.matL ((M.w64 (1 + M.nextV 3 (List.take 300 s))) * (M.w64 (1 + M.nextV 3 (M.nextL 3 (List.take 300 s))))).toNat (M.nextL 3 (M.nextL 3 (List.take 300 s))))))) (M.apR (M.w64 (1 + M.nextV 3 (List.take 300 s))) (M.w64 (1 + M.nextV 3 (M.nextL 3 (List.take 300 s)))) (M.matD ((M.w64 (1 + M.nextV 3 (List.take 300 s))) * (M.w64 (1 + M.nextV 3 (M.nextL 3 (List.take 300 s))))).toNat (M.nextL 3 (M.nextL 3 (List.take 300 s)))) (M.w64 (1 + M.nextV 3 (List.take 300 s))) (M.blkD (M.bN (M.w64 (1 + M.nextV 3 (List.take 300 s))) 4) (M.blkL (M.bN (M.w64 (1 + M.nextV 3 (List.take 300 s))) 4) (M.matL ((M.w64 (1 + M.nextV 3 (List.take 300 s))) * (M.w64 (1 + M.nextV 3 (M.nextL 3 (List.take 300 s))))).toNat (M.nextL 3 (M.nextL 3 (List.take 300 s))))))) then some (AV.bool false, [], 0) else bif decide ((M.idD k).length < 4294967296) && true then bif M.sameM (M.idN k) (M.idN k) (M.idD k) (M.idN k) (M.idN k) (M.idD k) then some (AV.bool (M.idE k == M.idE k), [], 0) else some (AV.bool false, [], 0) else none else none else some (AV.bool false, [], 0) else some (AV.bool false, [], 0) else none else none else none else none else none else some (AV.bool false, [], 0) else some (AV.bool false, [], 0) else none else none else none else none else none else none else some (AV.bool false, [], 0) else some (AV.bool false, [], 0) else none else none else none else none else none else some (AV.bool false, [], 0) else some (AV.bool false, [], 0) else none else none else none else none else none else none else some (AV.bool true, [], 0)) by kernel_rfl).trans ?_
  obtain ⟨f1, f2, f3⟩ := law_facts hs l
  rw [f1, f2, f3]
  generalize (M.w64 (1 + M.nextV 3 (List.take 300 s))) = a0 at *
  generalize (M.w64 (1 + M.nextV 3 (M.nextL 3 (List.take 300 s)))) = b0 at *
  by_cases hco : (co.length : Int) ≤ 100
  · by_cases hl : (l.length : Int) ≤ 200
    · have hM : (M.matD (a0 * b0).toNat (M.nextL 3 (M.nextL 3 (List.take 300 s)))).length < 4294967296 := by
        rw [matD_length]; have := (okM_ok f1).2.2.1; omega
      have hB : ∀ b, (M.blkD (M.bN a0 4) b).length < 4294967296 := fun b => by
        rw [blkD_length]; have := (bN_ok f2).2.2.1; omega
      have hL : l.length < 4294967296 := by omega
      have hI : (M.idD k).length < 4294967296 := by
        unfold M.idD M.idE
        cases hk : (decide (1 ≤ k) && decide (k ≤ 8)) with
        | false => exact Nat.zero_lt_succ _
        | true =>
          simp only [Bool.and_eq_true, decide_eq_true_eq] at hk
          show (List.map _ (List.range (k.toNat * k.toNat))).length < _
          rw [List.length_map, List.length_range]
          have := Nat.mul_le_mul (show k.toNat ≤ 8 by omega) (show k.toNat ≤ 8 by omega)
          omega
      simp only [decide_eq_true hco, decide_eq_true hl, decide_eq_true (by omega : co.length < 4294967296), decide_eq_true hL, decide_eq_true hM, decide_eq_true (hB _), decide_eq_true hI, decide_eq_true (apR_len hL), decide_eq_true (apR_len (hB _)), beq_self_eq_true, bne_self_eq_false, sameB_self, sameM_self, Bool.not_true, Bool.not_false, Bool.and_true, Bool.and_self, cond_true, cond_false]
    · simp only [decide_eq_true hco, decide_eq_false hl, Bool.not_true, Bool.not_false, cond_true, cond_false]
  · simp only [decide_eq_false hco, Bool.not_true, Bool.not_false, cond_true, cond_false]

theorem matrixApplies_lifted (os : Os) (started : os.Started) (H : Type) (enc : TypeId × Value → H) :
    ReturnsInHanded {} Try.checked os 3 .any (Rows.matrixAppliesSpec.pre6 enc Try.prog Try.f3 Rows.matrixAppliesRow.domain false) (Rows.matrixAppliesSpec.post enc Try.prog Try.f3 false true false false) := by
  refine returnsInHanded_of_change (C := Try.checked) own started (by kernel_rfl) Try.func3
    (ChangeSpec.witness6 (enc := enc) (C := Try.checked) false ⟨#[], #[.agg #[.int .i64 0, .int .i64 0, .slice none 0 0], .agg #[.int .i64 0, .slice none 0 0], .slice none 0 0, .int .i64 0], []⟩ 8 (by kernel_rfl) (by kernel_rfl) (by kernel_rfl) (by kernel_rfl)) ?_
  intro W base args ds gs before hval0 hW hcnd _
  have hval : ∀ (j : Nat) t v, Try.f3.params[j]? = some t → args[j]? = some v → Value.okWide Try.prog W .any base t v := hval0
  have hW' := hW
  obtain ⟨p, q, hA0, hV, rfl, hfz, hnd⟩ := hW
  have hA : DataW.TrodAll enc Try.prog W 0 (fun _ => true) true Try.f3.params.toList args.toList ds p := hA0
  rw [Try.params3] at hA hval
  obtain ⟨v0, v1, v2, v3, d0, d1, d2, d3, p0, p1, p2, p3, rfl, rfl, rfl, h0, h1, h2, h3⟩ := trodAll_four hA
  obtain ⟨rfl, rfl⟩ := trodVars_none hV
  obtain ⟨cs0, rfl, hs0⟩ := okWide_agg Try.underlying24 (hval 0 24 v0 rfl rfl)
  have hn0 : Try.prog.cellsOf 24 = 3 := by kernel_rfl
  rw [hn0] at hs0
  obtain ⟨f0, hf0⟩ := h0
  obtain ⟨cs0_0⟩ := cs0
  have hs0_0 : cs0_0.length = 3 := hs0
  obtain ⟨c0_0, cs0_1, rfl, hs0_1⟩ := len_succ hs0_0
  obtain ⟨c0_1, cs0_2, rfl, hs0_2⟩ := len_succ hs0_1
  obtain ⟨c0_2, cs0_3, rfl, hs0_3⟩ := len_succ hs0_2
  obtain rfl := List.length_eq_zero_iff.1 hs0_3
  have g0 : DataW.trod enc Try.prog W 0 (fun _ => true) true f0 24 [c0_0, c0_1, c0_2] = some (d0, p0) := hf0
  obtain ⟨mg0_0, yg0_0, g0_0⟩ := trod_sub' Try.underlying24 g0 0 0 1 (u := 3) (ds := [c0_0]) rfl (by kernel_rfl) rfl
  obtain ⟨n, eg0_0, _, w_n⟩ := DataW.trod_int Try.underlying3 g0_0
  obtain rfl := List.singleton_inj.1 eg0_0
  obtain ⟨mg0_1, yg0_1, g0_1⟩ := trod_sub' Try.underlying24 g0 1 1 1 (u := 3) (ds := [c0_1]) rfl (by kernel_rfl) rfl
  obtain ⟨m, eg0_1, _, w_m⟩ := DataW.trod_int Try.underlying3 g0_1
  obtain rfl := List.singleton_inj.1 eg0_1
  obtain ⟨mg0_2, yg0_2, g0_2⟩ := trod_sub' Try.underlying24 g0 2 2 1 (u := 22) (ds := [c0_2]) rfl (by kernel_rfl) rfl
  obtain ⟨co, h_co, w_co⟩ := open_rowT Try.underlying22 Try.underlying3 (by kernel_rfl) g0_2
  have r_n : -9223372036854775808 ≤ n ∧ n ≤ 9223372036854775807 := by
    simp only [Lit.wf, IntKind.min, IntKind.max, IntKind.signed, IntKind.bits, Bool.and_eq_true, decide_eq_true_eq] at w_n
    simpa using w_n
  have r_m : -9223372036854775808 ≤ m ∧ m ≤ 9223372036854775807 := by
    simp only [Lit.wf, IntKind.min, IntKind.max, IntKind.signed, IntKind.bits, Bool.and_eq_true, decide_eq_true_eq] at w_m
    simpa using w_m
  obtain ⟨cs1, rfl, hs1⟩ := okWide_agg Try.underlying27 (hval 1 27 v1 rfl rfl)
  have hn1 : Try.prog.cellsOf 27 = 2 := by kernel_rfl
  rw [hn1] at hs1
  obtain ⟨f1, hf1⟩ := h1
  obtain ⟨cs1_0⟩ := cs1
  have hs1_0 : cs1_0.length = 2 := hs1
  obtain ⟨c1_0, cs1_1, rfl, hs1_1⟩ := len_succ hs1_0
  obtain ⟨c1_1, cs1_2, rfl, hs1_2⟩ := len_succ hs1_1
  obtain rfl := List.length_eq_zero_iff.1 hs1_2
  have g1 : DataW.trod enc Try.prog W 0 (fun _ => true) true f1 27 [c1_0, c1_1] = some (d1, p1) := hf1
  obtain ⟨mg1_0, yg1_0, g1_0⟩ := trod_sub' Try.underlying27 g1 0 0 1 (u := 3) (ds := [c1_0]) rfl (by kernel_rfl) rfl
  obtain ⟨c, eg1_0, _, w_c⟩ := DataW.trod_int Try.underlying3 g1_0
  obtain rfl := List.singleton_inj.1 eg1_0
  obtain ⟨mg1_1, yg1_1, g1_1⟩ := trod_sub' Try.underlying27 g1 1 1 1 (u := 25) (ds := [c1_1]) rfl (by kernel_rfl) rfl
  obtain ⟨l, h_l, w_l⟩ := open_rowT Try.underlying25 Try.underlying21 (by kernel_rfl) g1_1
  have r_c : -9223372036854775808 ≤ c ∧ c ≤ 9223372036854775807 := by
    simp only [Lit.wf, IntKind.min, IntKind.max, IntKind.signed, IntKind.bits, Bool.and_eq_true, decide_eq_true_eq] at w_c
    simpa using w_c
  obtain ⟨a_s, len_s, cap_s, rfl⟩ := okWide_slice Try.underlying28 (hval 2 28 v2 rfl rfl)
  obtain ⟨s, h_s, w_s⟩ := open_row' Try.underlying28 Try.underlying5 (by kernel_rfl) ⟨_, rfl, rfl⟩ h2
  obtain ⟨k, rfl, rfl, rfl, w_k⟩ := open_int Try.underlying3 (hval 3 3 v3 rfl rfl) h3
  have r_k : -9223372036854775808 ≤ k ∧ k ≤ 9223372036854775807 := by
    simp only [Lit.wf, IntKind.min, IntKind.max, IntKind.signed, IntKind.bits, Bool.and_eq_true, decide_eq_true_eq] at w_k
    simpa using w_k
  have hcalls := pure_of_callB z1_ok noCall_ok (m := 10) (e_law n m c k co l s (byt_of_wf w_s)) rfl (fun b _ => b < W.heap.size) W [.agg #[.int .i64 n, .int .i64 m, c0_2], .agg #[.int .i64 c, c1_1], .slice a_s len_s cap_s, .int .i64 k] (fun b _ h => h)
    (.cons ⟨_, rfl, (.cons (.int _ _) (.cons (.int _ _) (.cons h_co .nil)))⟩ (.cons ⟨_, rfl, (.cons (.int _ _) (.cons h_l .nil))⟩ (.cons h_s (.cons (.int _ _) .nil))))
  refine hcalls.mono fun e W' ⟨V, he, hs, hbl, hos, hout, hV⟩ => ?_
  cases hV
  exact ⟨_, he, law_post laidOut hW' rfl rfl rfl rfl (by kernel_rfl) Try.underlying4 (by rw [Try.params3]; intro t ht; simp at ht; rcases ht with rfl | rfl | rfl | rfl <;> exact ⟨by kernel_rfl, by decide +kernel⟩) hos hout hbl⟩

theorem matrixApplies_holds : Rows.MatrixAppliesSaid :=
  OpenClaim.holds_of_wide 3 Try.f3 rfl rfl rfl rfl rfl rfl rfl ⟨rfl, rfl, rfl, rfl, rfl⟩ rfl rfl rfl rfl rfl (by kernel_rfl) Try.func3 (by kernel_rfl)
    (of_decide_eq_true (by kernel_rfl)) (by unfold Func.isWrapper; first | (rw [if_pos (by decide +kernel)]; kernel_rfl) | (rw [if_neg (by decide +kernel)]; exact ⟨rfl, rfl⟩))
    (fun os started H enc _ => matrixApplies_lifted os started H enc)

end Go.Proofs.Ytplcpdjabjjfiaa
