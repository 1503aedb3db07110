/- MatrixMuls holds for every input: products, or the error. -/
import Derived.Test.YtplcpdjabjjfiaaMaI
import Derived.Test.YtplcpdjabjjfiaaAmRow
import Derived.Test.YtplcpdjabjjfiaaRows
namespace Go.Proofs.Ytplcpdjabjjfiaa
open Am
set_option maxRecDepth 100000
set_option linter.unusedVariables false
set_option linter.unusedSimpArgs false
open Go.ChangeShapes Go.WideShapes Go.ChangeAt Go.RowKit
theorem own : ownKnob Try.prog.godebug = none := by kernel_rfl
theorem laidOut : laidOutB Try.prog = true := by kernel_rfl
theorem byt_of_wf {l : List Int} (h : ∀ n ∈ l, (Lit.int .u8 n).wf = true) : M.byt l = true := by
  simp only [M.byt, List.all_eq_true]
  intro n hn
  have := h n hn
  simpa [Lit.wf, IntKind.min, IntKind.max, IntKind.signed, IntKind.bits] using this

theorem mulC_len (n ka : Int) (a : List Int) (kb m : Int) (b : List Int) : (M.mulC n ka a kb m b).length < 4294967296 := by
  unfold M.mulC M.mulE
  cases hm : M.mtxV n ka a with
  | false => exact Nat.zero_lt_succ _
  | true =>
  cases hv : M.mtxV kb m b with
  | false => exact Nat.zero_lt_succ _
  | true =>
  cases hn : (kb != ka) with
  | true => exact Nat.zero_lt_succ _
  | false =>
  show (M.mulD n a kb b m.toNat).length < 4294967296
  rw [mulD_length]
  obtain ⟨h1, h2, _⟩ := mtx_iff hm
  obtain ⟨_, _, h3, h4, _⟩ := mtx_iff hv
  have := Nat.mul_le_mul (show m.toNat ≤ 8 by omega) (show n.toNat ≤ 8 by omega)
  omega
theorem byt_matL : ∀ (k : Nat) {l : List Int}, M.byt l = true → M.byt (M.matL k l) = true
  | 0, l, h => h
  | k + 1, l, h => byt_matL k (byt_next (byt_next h))
theorem okM_next {l l' : List Int} (h : M.byt l = true) (h' : M.byt l' = true) : M.okM (M.w64 (1 + M.nextV 3 l)) (M.w64 (1 + M.nextV 3 l')) = true := by
  have r0 := next_range (n := 3) (by omega) h
  have r1 := next_range (n := 3) (by omega) h'
  rw [w64_in (by omega) (by omega), w64_in (by omega) (by omega)]
  unfold M.okM
  rw [decide_eq_true (by omega), decide_eq_true (by omega), decide_eq_true (by omega), decide_eq_true (by omega)]
  rfl
theorem e_law (n m n' m' : Int) (a b s : List Int) (hs : M.byt s = true) : callB q5 noCall 10 7 [.agg [.int .i64 n, .int .i64 m, .vi .i64 a], .agg [.int .i64 n', .int .i64 m', .vi .i64 b], .vi .u8 s] [] 0 = some (.bool true, [], 0) := by
  refine (show callB q5 noCall 10 7 [.agg [.int .i64 n, .int .i64 m, .vi .i64 a], .agg [.int .i64 n', .int .i64 m', .vi .i64 b], .vi .u8 s] [] 0 = (bif !!decide ((a.length : Int) ≤ 100) then bif !decide ((b.length : Int) ≤ 100) then some (AV.bool true, [], 0) else bif M.okM (M.w64 (1 + M.nextV 3 (List.take 300 s))) (M.w64 (1 + M.nextV 3 (M.nextL 3 (List.take 300 s)))) && M.byt (M.nextL 3 (M.nextL 3 (M.nextL 3 (List.take 300 s)))) && true then bif M.okM (M.w64 (1 + M.nextV 3 (M.nextL 3 (List.take 300 s)))) (M.w64 (1 + M.nextV 3 (M.nextL 3 (M.nextL 3 (List.take 300 s))))) && M.byt (M.matL ((M.w64 (1 + M.nextV 3 (List.take 300 s))) * (M.w64 (1 + M.nextV 3 (M.nextL 3 (List.take 300 s))))).toNat (M.nextL 3 (M.nextL 3 (M.nextL 3 (List.take 300 s))))) && true then bif decide (a.length < 4294967296) && decide (b.length < 4294967296) && true then bif decide (a.length < 4294967296) && decide (b.length < 4294967296) && true then bif !M.mulE n m a n' m' b != M.mulE n m a n' m' b then bif decide ((M.mulC n m a n' m' b).length < 4294967296) && true then bif !M.sameM (M.mulI n m a n' m' b) (M.mulO n m a n' m' b) (M.mulC n m a n' m' b) (M.mulI n m a n' m' b) (M.mulO n m a n' m' b) (M.mulC n m a n' m' b) then some (AV.bool false, [], 0) else bif decide (a.length < 4294967296) && decide ((M.matD ((M.w64 (1 + M.nextV 3 (M.nextL 3 (List.take 300 s)))) * (M.w64 (1 + M.nextV 3 (M.nextL 3 (M.nextL 3 (List.take 300 s)))))).toNat (M.matL ((M.w64 (1 + M.nextV 3 (List.take 300 s))) * (M.w64 (1 + M.nextV 3 (M.nextL 3 (List.take 300 s))))).toNat (M.nextL 3 (M.nextL 3 (M.nextL 3 (List.take 300 s)))))).length < 4294967296) && true then bif decide (a.length < 4294967296) && decide ((M.matD ((M.w64 (1 + M.nextV 3 (M.nextL 3 (List.take 300 s)))) * (M.w64 (1 + M.nextV 3 (M.nextL 3 (M.nextL 3 (List.take 300 s)))))).toNat (M.matL ((M.w64 (1 + M.nextV 3 (List.take 300 s))) * (M.w64 (1 + M.nextV 3 (M.nextL 3 (List.take 300 s))))).toNat (M.nextL 3 (M.nextL 3 (M.nextL 3 (List.take 300 s)))))).length < 4294967296) && true then bif !M.mulE n m a (M.w64 (1 + M.nextV 3 (M.nextL 3 (List.take 300 s)))) (M.w64 (1 + M.nextV 3 (M.nextL 3 (M.nextL 3 (List.take 300 s))))) (M.matD ((M.w64 (1 + M.nextV 3 (M.nextL 3 (List.take 300 s)))) * (M.w64 (1 + M.nextV 3 (M.nextL 3 (M.nextL 3 (List.take 300 s)))))).toNat (M.matL ((M.w64 (1 + M.nextV 3 (List.take 300 s))) * (M.w64 (1 + M.nextV 3 (M.nextL 3 (List.take 300 s))))).toNat (M.nextL 3 (M.nextL 3 (M.nextL 3 (List.take 300 s)))))) != M.mulE n m a (M.w64 (1 + M.nextV 3 (M.nextL 3 (List.take 300 s)))) (M.w64 (1 + M.nextV 3 (M.nextL 3 (M.nextL 3 (List.take 300 s))))) (M.matD ((M.w64 (1 + M.nextV 3 (M.nextL 3 (List.take 300 s)))) * (M.w64 (1 + M.nextV 3 (M.nextL 3 (M.nextL 3 (List.take 300 s)))))).toNat (M.matL ((M.w64 (1 + M.nextV 3 (List.take 300 s))) * (M.w64 (1 + M.nextV 3 (M.nextL 3 (List.take 300 s))))).toNat (M.nextL 3 (M.nextL 3 (M.nextL 3 (List.take 300 s)))))) then bif decide ((M.mulC n m a (M.w64 (1 + M.nextV 3 (M.nextL 3 (List.take 300 s)))) (M.w64 (1 + M.nextV 3 (M.nextL 3 (M.nextL 3 (List.take 300 s))))) (M.matD ((M.w64 (1 + M.nextV 3 (M.nextL 3 (List.take 300 s)))) * (M.w64 (1 + M.nextV 3 (M.nextL 3 (M.nextL 3 (List.take 300 s)))))).toNat (M.matL ((M.w64 (1 + M.nextV 3 (List.take 300 s))) * (M.w64 (1 + M.nextV 3 (M.nextL 3 (List.take 300 s))))).toNat (M.nextL 3 (M.nextL 3 (M.nextL 3 (List.take 300 s))))))).length < 4294967296) && true then bif !M.sameM (M.mulI n m a (M.w64 (1 + M.nextV 3 (M.nextL 3 (List.take 300 s)))) (M.w64 (1 + M.nextV 3 (M.nextL 3 (M.nextL 3 (List.take 300 s))))) (M.matD ((M.w64 (1 + M.nextV 3 (M.nextL 3 (List.take 300 s)))) * (M.w64 (1 + M.nextV 3 (M.nextL 3 (M.nextL 3 (List.take 300 s)))))).toNat (M.matL ((M.w64 (1 + M.nextV 3 (List.take 300 s))) * (M.w64 (1 + M.nextV 3 (M.nextL 3 (List.take 300 s))))).toNat (M.nextL 3 (M.nextL 3 (M.nextL 3 (List.take 300 s))))))) (M.mulO n m a (M.w64 (1 + M.nextV 3 (M.nextL 3 (List.take 300 s)))) (M.w64 (1 + M.nextV 3 (M.nextL 3 (M.nextL 3 (List.take 300 s))))) (M.matD ((M.w64 (1 + M.nextV 3 (M.nextL 3 (List.take 300 s)))) * (M.w64 (1 + M.nextV 3 (M.nextL 3 (M.nextL 3 (List.take 300 s)))))).toNat (M.matL ((M.w64 (1 + M.nextV 3 (List.take 300 s))) * (M.w64 (1 + M.nextV 3 (M.nextL 3 (List.take 300 s))))).toNat (M.nextL 3 (M.nextL 3 (M.nextL 3 (List.take 300 s))))))) (M.mulC n m a (M.w64 (1 + M.nextV 3 (M.nextL 3 (List.take 300 s)))) (M.w64 (1 + M.nextV 3 (M.nextL 3 (M.nextL 3 (List.take 300 s))))) (M.matD ((M.w64 (1 + M.nextV 3 (M.nextL 3 (List.take 300 s)))) * (M.w64 (1 + M.nextV 3 (M.nextL 3 (M.nextL 3 (List.take 300 s)))))).toNat (M.matL ((M.w64 (1 + M.nextV 3 (List.take 300 s))) * (M.w64 (1 + M.nextV 3 (M.nextL 3 (List.take 300 s))))).toNat (M.nextL 3 (M.nextL 3 (M.nextL 3 (List.take 300 s))))))) (M.mulI n m a (M.w64 (1 + M.nextV 3 (M.nextL 3 (List.take 300 s)))) (M.w64 (1 + M.nextV 3 (M.nextL 3 (M.nextL 3 (List.take 300 s))))) (M.matD ((M.w64 (1 + M.nextV 3 (M.nextL 3 (List.take 300 s)))) * (M.w64 (1 + M.nextV 3 (M.nextL 3 (M.nextL 3 (List.take 300 s)))))).toNat (M.matL ((M.w64 (1 + M.nextV 3 (List.take 300 s))) * (M.w64 (1 + M.nextV 3 (M.nextL 3 (List.take 300 s))))).toNat (M.nextL 3 (M.nextL 3 (M.nextL 3 (List.take 300 s))))))) (M.mulO n m a (M.w64 (1 + M.nextV 3 (M.nextL 3 (List.take 300 s)))) (M.w64 (1 + M.nextV 3 (M.nextL 3 (M.nextL 3 (List.take 300 s))))) (M.matD ((M.w64 (1 + M.nextV 3 (M.nextL 3 (List.take 300 s)))) * (M.w64 (1 + M.nextV 3 (M.nextL 3 (M.nextL 3 (List.take 300 s)))))).toNat (M.matL ((M.w64 (1 + M.nextV 3 (List.take 300 s))) * (M.w64 (1 + M.nextV 3 (M.nextL 3 (List.take 300 s))))).toNat (M.nextL 3 (M.nextL 3 (M.nextL 3 (List.take 300 s))))))) (M.mulC n m a (M.w64 (1 + M.nextV 3 (M.nextL 3 (List.take 300 s)))) (M.w64 (1 + M.nextV 3 (M.nextL 3 (M.nextL 3 (List.take 300 s))))) (M.matD ((M.w64 (1 + M.nextV 3 (M.nextL 3 (List.take 300 s)))) * (M.w64 (1 + M.nextV 3 (M.nextL 3 (M.nextL 3 (List.take 300 s)))))).toNat (M.matL ((M.w64 (1 + M.nextV 3 (List.take 300 s))) * (M.w64 (1 + M.nextV 3 (M.nextL 3 (List.take 300 s))))).toNat (M.nextL 3 (M.nextL 3 (M.nextL 3 (List.take 300 s))))))) then some (AV.bool false, [], 0) else bif M.okM (M.w64 (1 + M.nextV 3 (M.nextL 3 (List.take 300 s)))) (M.w64 (1 + M.nextV 3 (M.nextL 3 (M.nextL 3 (List.take 300 s))))) && M.byt (M.matL ((M.w64 (1 + M.nextV 3 (M.nextL 3 (List.take 300 s)))) * (M.w64 (1 + M.nextV 3 (M.nextL 3 (M.nextL 3 (List.take 300 s)))))).toNat (M.matL ((M.w64 (1 + M.nextV 3 (List.take 300 s))) * (M.w64 (1 + M.nextV 3 (M.nextL 3 (List.take 300 s))))).toNat (M.nextL 3 (M.nextL 3 (M.nextL 3 (List.take 300 s)))))) && true then bif decide ((M.matD ((M.w64 (1 + M.nextV 3 (List.take 300 s))) * (M.w64 (1 + M.nextV 3 (M.nextL 3 (List.take 300 s))))).toNat (M.nextL 3 (M.nextL 3 (M.nextL 3 (List.take 300 s))))).length < 4294967296) && decide (b.length < 4294967296) && true then bif decide ((M.matD ((M.w64 (1 + M.nextV 3 (List.take 300 s))) * (M.w64 (1 + M.nextV 3 (M.nextL 3 (List.take 300 s))))).toNat (M.nextL 3 (M.nextL 3 (M.nextL 3 (List.take 300 s))))).length < 4294967296) && decide (b.length < 4294967296) && true then bif !M.mulE (M.w64 (1 + M.nextV 3 (List.take 300 s))) (M.w64 (1 + M.nextV 3 (M.nextL 3 (List.take 300 s)))) (M.matD ((M.w64 (1 + M.nextV 3 (List.take 300 s))) * (M.w64 (1 + M.nextV 3 (M.nextL 3 (List.take 300 s))))).toNat (M.nextL 3 (M.nextL 3 (M.nextL 3 (List.take 300 s))))) n' m' b != M.mulE (M.w64 (1 + M.nextV 3 (List.take 300 s))) (M.w64 (1 + M.nextV 3 (M.nextL 3 (List.take 300 s)))) (M.matD ((M.w64 (1 + M.nextV 3 (List.take 300 s))) * (M.w64 (1 + M.nextV 3 (M.nextL 3 (List.take 300 s))))).toNat (M.nextL 3 (M.nextL 3 (M.nextL 3 (List.take 300 s))))) n' m' b then bif decide ((M.mulC (M.w64 (1 + M.nextV 3 (List.take 300 s))) (M.w64 (1 + M.nextV 3 (M.nextL 3 (List.take 300 s)))) (M.matD ((M.w64 (1 + M.nextV 3 (List.take 300 s))) * (M.w64 (1 + M.nextV 3 (M.nextL 3 (List.take 300 s))))).toNat (M.nextL 3 (M.nextL 3 (M.nextL 3 (List.take 300 s))))) n' m' b).length < 4294967296) && true then bif !M.sameM (M.mulI (M.w64 (1 + M.nextV 3 (List.take 300 s))) (M.w64 (1 + M.nextV 3 (M.nextL 3 (List.take 300 s)))) (M.matD ((M.w64 (1 + M.nextV 3 (List.take 300 s))) * (M.w64 (1 + M.nextV 3 (M.nextL 3 (List.take 300 s))))).toNat (M.nextL 3 (M.nextL 3 (M.nextL 3 (List.take 300 s))))) n' m' b) (M.mulO (M.w64 (1 + M.nextV 3 (List.take 300 s))) (M.w64 (1 + M.nextV 3 (M.nextL 3 (List.take 300 s)))) (M.matD ((M.w64 (1 + M.nextV 3 (List.take 300 s))) * (M.w64 (1 + M.nextV 3 (M.nextL 3 (List.take 300 s))))).toNat (M.nextL 3 (M.nextL 3 (M.nextL 3 (List.take 300 s))))) n' m' b) (M.mulC (M.w64 (1 + M.nextV 3 (List.take 300 s))) (M.w64 (1 + M.nextV 3 (M.nextL 3 (List.take 300 s)))) (M.matD ((M.w64 (1 + M.nextV 3 (List.take 300 s))) * (M.w64 (1 + M.nextV 3 (M.nextL 3 (List.take 300 s))))).toNat (M.nextL 3 (M.nextL 3 (M.nextL 3 (List.take 300 s))))) n' m' b) (M.mulI (M.w64 (1 + M.nextV 3 (List.take 300 s))) (M.w64 (1 + M.nextV 3 (M.nextL 3 (List.take 300 s)))) (M.matD ((M.w64 (1 + M.nextV 3 (List.take 300 s))) * (M.w64 (1 + M.nextV 3 (M.nextL 3 (List.take 300 s))))).toNat (M.nextL 3 (M.nextL 3 (M.nextL 3 (List.take 300 s))))) n' m' b) (M.mulO (M.w64 (1 + M.nextV 3 (List.take 300 s))) (M.w64 (1 + M.nextV 3 (M.nextL 3 (List.take 300 s)))) (M.matD ((M.w64 (1 + M.nextV 3 (List.take 300 s))) * (M.w64 (1 + M.nextV 3 (M.nextL 3 (List.take 300 s))))).toNat (M.nextL 3 (M.nextL 3 (M.nextL 3 (List.take 300 s))))) n' m' b) (M.mulC (M.w64 (1 + M.nextV 3 (List.take 300 s))) (M.w64 (1 + M.nextV 3 (M.nextL 3 (List.take 300 s)))) (M.matD ((M.w64 (1 + M.nextV 3 (List.take 300 s))) * (M.w64 (1 + M.nextV 3 (M.nextL 3 (List.take 300 s))))).toNat (M.nextL 3 (M.nextL 3 (M.nextL 3 (List.take 300 s))))) n' m' b) then some (AV.bool false, [], 0) else bif decide ((M.matD ((M.w64 (1 + M.nextV 3 (List.take 300 s))) * (M.w64 (1 + M.nextV 3 (M.nextL 3 (List.take 300 s))))).toNat (M.nextL 3 (M.nextL 3 (M.nextL 3 (List.take 300 s))))).length < 4294967296) && decide ((M.matD ((M.w64 (1 + M.nextV 3 (M.nextL 3 (List.take 300 s)))) * (M.w64 (1 + M.nextV 3 (M.nextL 3 (M.nextL 3 (List.take 300 s)))))).toNat (M.matL ((M.w64 (1 + M.nextV 3 (M.nextL 3 (List.take 300 s)))) * (M.w64 (1 + M.nextV 3 (M.nextL 3 (M.nextL 3 (List.take 300 s)))))).toNat (M.matL ((M.w64 (1 + M.nextV 3 (List.take 300 s))) * (M.w64 (1 + M.nextV 3 (M.nextL 3 (List.take 300 s))))).toNat (M.nextL 3 (M.nextL 3 (M.nextL 3 (List.take 300 s))))))).length < 4294967296) && true then bif decide ((M.matD ((M.w64 (1 + M.nextV 3 (List.take 300 s))) * (M.w64 (1 + M.nextV 3 (M.nextL 3 (List.take 300 s))))).toNat (M.nextL 3 (M.nextL 3 (M.nextL 3 (List.take 300 s))))).length < 4294967296) && decide ((M.matD ((M.w64 (1 + M.nextV 3 (M.nextL 3 (List.take 300 s)))) * (M.w64 (1 + M.nextV 3 (M.nextL 3 (M.nextL 3 (List.take 300 s)))))).toNat (M.matL ((M.w64 (1 + M.nextV 3 (M.nextL 3 (List.take 300 s)))) * (M.w64 (1 + M.nextV 3 (M.nextL 3 (M.nextL 3 (List.take 300 s)))))).toNat (M.matL ((M.w64 (1 + M.nextV 3 (List.take 300 s))) * (M.w64 (1 + M.nextV 3 (M.nextL 3 (List.take 300 s))))).toNat (M.nextL 3 (M.nextL 3 (M.nextL 3 (List.take 300 s))))))).length < 4294967296) && true then bif !M.mulE (M.w64 (1 + M.nextV 3 (List.take 300 s))) (M.w64 (1 + M.nextV 3 (M.nextL 3 (List.take 300 s)))) (M.matD ((M.w64 (1 + M.nextV 3 (List.take 300 s))) * (M.w64 (1 + M.nextV 3 (M.nextL 3 (List.take 300 s))))).toNat (M.nextL 3 (M.nextL 3 (M.nextL 3 (List.take 300 s))))) (M.w64 (1 + M.nextV 3 (M.nextL 3 (List.take 300 s)))) (M.w64 (1 + M.nextV 3 (M.nextL 3 (M.nextL 3 (List.take 300 s))))) (M.matD ((M.w64 (1 + M.nextV 3 (M.nextL 3 (List.take 300 s)))) * (M.w64 (1 + M.nextV 3 (M.nextL 3 (M.nextL 3 (List.take 300 s)))))).toNat (M.matL ((M.w64 (1 + M.nextV 3 (M.nextL 3 (List.take 300 s)))) * (M.w64 (1 + M.nextV 3 (M.nextL 3 (M.nextL 3 (List.take 300 s)))))).toNat (M.matL ((M.w64 (1 + M.nextV 3 (List.take 300 s))) * (M.w64 (1 + M.nextV 3 (M.nextL 3 (List.take 300 s))))).toNat (M.nextL 3 (M.nextL 3 (M.nextL 3 (List.take 300 s))))))) != M.mulE (M.w64 (1 + M.nextV 3 (List.take 300 s))) (M.w64 (1 + M.nextV 3 (M.nextL 3 (List.take 300 s)))) (M.matD ((M.w64 (1 + M.nextV 3 (List.take 300 s))) * (M.w64 (1 + M.nextV 3 (M.nextL 3 (List.take 300 s))))).toNat (M.nextL 3 (M.nextL 3 (M.nextL 3 (List.take 300 s))))) (M.w64 (1 + M.nextV 3 (M.nextL 3 (List.take 300 s)))) (M.w64 (1 + M.nextV 3 (M.nextL 3 (M.nextL 3 (List.take 300 s))))) (M.matD ((M.w64 (1 + M.nextV 3 (M.nextL 3 (List.take 300 s)))) * (M.w64 (1 + M.nextV 3 (M.nextL 3 (M.nextL 3 (List.take 300 s)))))).toNat (M.matL ((M.w64 (1 + M.nextV 3 (M.nextL 3 (List.take 300 s)))) * (M.w64 (1 + M.nextV 3 (M.nextL 3 (M.nextL 3 (List.take 300 s)))))).toNat (M.matL ((M.w64 (1 + M.nextV 3 (List.take 300 s))) * (M.w64 (1 + M.nextV 3 (M.nextL 3 (List.take 300 s))))).toNat (M.nextL 3 (M.nextL 3 (M.nextL 3 (List.take 300 s))))))) then bif decide ((M.mulC (M.w64 (1 + M.nextV 3 (List.take 300 s))) (M.w64 (1 + M.nextV 3 (M.nextL 3 (List.take 300 s)))) (M.matD ((M.w64 (1 + M.nextV 3 (List.take 300 s))) * (M.w64 (1 + M.nextV 3 (M.nextL 3 (List.take 300 s))))).toNat (M.nextL 3 (M.nextL 3 (M.nextL 3 (List.take 300 s))))) (M.w64 (1 + M.nextV 3 (M.nextL 3 (List.take 300 s)))) (M.w64 (1 + M.nextV 3 (M.nextL 3 (M.nextL 3 (List.take 300 s))))) (M.matD ((M.w64 (1 + M.nextV 3 (M.nextL 3 (List.take 300 s)))) * (M.w64 (1 + M.nextV 3 (M.nextL 3 (M.nextL 3 (List.take 300 s)))))).toNat (M.matL ((M.w64 (1 + M.nextV 3 (M.nextL 3 (List.take 300 s)))) * (M.w64 (1 + M.nextV 3 (M.nextL 3 (M.nextL 3 (List.take 300 s)))))).toNat (M.matL ((M.w64 (1 + M.nextV 3 (List.take 300 s))) * (M.w64 (1 + M.nextV 3 (M.nextL 3 (List.take 300 s))))).toNat (M.nextL 3 (M.nextL 3 (M.nextL 3 (List.take 300 s)))))))).length < 4294967296) && true then bif !M.sameM (M.mulI (M.w64 (1 + M.nextV 3 (List.take 300 s))) (M.w64 (1 + M.nextV 3 (M.nextL 3 (List.take 300 s)))) (M.matD ((M.w64 (1 + M.nextV 3 (List.take 300 s))) * (M.w64 (1 + M.nextV 3 (M.nextL 3 (List.take 300 s))))).toNat (M.nextL 3 (M.nextL 3 (M.nextL 3 (List.take 300 s))))) (M.w64 (1 + M.nextV 3 (M.nextL 3 (List.take 300 s)))) (M.w64 (1 + M.nextV 3 (M.nextL 3 (M.nextL 3 (List.take 300 s))))) (M.matD ((M.w64 (1 + M.nextV 3 (M.nextL 3 (List.take 300 s)))) * (M.w64 (1 + M.nextV 3 (M.nextL 3 (M.nextL 3 (List.take 300 s)))))).toNat (M.matL ((M.w64 (1 + M.nextV 3 (M.nextL 3 (List.take 300 s)))) * (M.w64 (1 + M.nextV 3 (M.nextL 3 (M.nextL 3 (List.take 300 s)))))).toNat (M.matL ((M.w64 (1 + M.nextV 3 (List.take 300 s))) * (M.w64 (1 + M.nextV 3 (M.nextL 3 (List.take 300 s))))).toNat (M.nextL 3 (M.nextL 3 (M.nextL 3 (List.take 300 s)))))))) (M.mulO (M.w64 (1 + M.nextV 3 (List.take 300 s))) (M.w64 (1 + M.nextV 3 (M.nextL 3 (List.take 300 s)))) (M.matD ((M.w64 (1 + M.nextV 3 (List.take 300 s))) * (M.w64 (1 + M.nextV 3 (M.nextL 3 (List.take 300 s))))).toNat (M.nextL 3 (M.nextL 3 (M.nextL 3 (List.take 300 s))))) (M.w64 (1 + M.nextV 3 (M.nextL 3 (List.take 300 s)))) (M.w64 (1 + M.nextV 3 (M.nextL 3 (M.nextL 3 (List.take 300 s))))) (M.matD ((M.w64 (1 + M.nextV 3 (M.nextL 3 (List.take 300 s)))) * (M.w64 (1 + M.nextV 3 (M.nextL 3 (M.nextL 3 (List.take 300 s)))))).toNat (M.matL ((M.w64 (1 + M.nextV 3 (M.nextL 3 (List.take 300 s)))) * (M.w64 (1 + M.nextV 3 (M.nextL 3 (M.nextL 3 (List.take 300 s)))))).toNat (M.matL ((M.w64 (1 + M.nextV 3 (List.take 300 s))) * (M.w64 (1 + M.nextV 3 (M.nextL 3 (List.take 300 s))))).toNat (M.nextL 3 (M.nextL 3 (M.nextL 3 (List.take 300 s)))))))) (M.mulC (M.w64 (1 + M.nextV 3 (List.take 300 s))) (M.w64 (1 + M.nextV 3 (M.nextL 3 (List.take 300 s)))) (M.matD ((M.w64 (1 + M.nextV 3 (List.take 300 s))) * (M.w64 (1 + M.nextV 3 (M.nextL 3 (List.take 300 s))))).toNat (M.nextL 3 (M.nextL 3 (M.nextL 3 (List.take 300 s))))) (M.w64 (1 + M.nextV 3 (M.nextL 3 (List.take 300 s)))) (M.w64 (1 + M.nextV 3 (M.nextL 3 (M.nextL 3 (List.take 300 s))))) (M.matD ((M.w64 (1 + M.nextV 3 (M.nextL 3 (List.take 300 s)))) * (M.w64 (1 + M.nextV 3 (M.nextL 3 (M.nextL 3 (List.take 300 s)))))).toNat (M.matL ((M.w64 (1 + M.nextV 3 (M.nextL 3 (List.take 300 s)))) * (M.w64 (1 + M.nextV 3 (M.nextL 3 (M.nextL 3 (List.take 300 s)))))).toNat (M.matL ((M.w64 (1 + M.nextV 3 (List.take 300 s))) * (M.w64 (1 + M.nextV 3 (M.nextL 3 (List.take 300 s))))).toNat (M.nextL 3 (M.nextL 3 (M.nextL 3 (List.take 300 s)))))))) (M.mulI (M.w64 (1 + M.nextV 3 (List.take 300 s))) (M.w64 (1 + M.nextV 3 (M.nextL 3 (List.take 300 s)))) (M.matD ((M.w64 (1 + M.nextV 3 (List.take 300 s))) * (M.w64 (1 + M.nextV 3 (M.nextL 3 (List.take 300 s))))).toNat (M.nextL 3 (M.nextL 3 (M.nextL 3 (List.take 300 s))))) (M.w64 (1 + M.nextV 3 (M.nextL 3 (List.take 300 s)))) (M.w64 (1 + M.nextV 3 (M.nextL 3 (M.nextL 3 (List.take 300 s))))) (M.matD ((M.w64 (1 + M.nextV 3 (M.nextL 3 (List.take 300 s)))) * (M.w64 (1 + M.nextV 3 (M.nextL 3 (M.nextL 3 (List.take 300 s)))))).toNat (M.matL ((M.w64 (1 + M.nextV 3 (M.nextL 3 (List.take 300 s)))) * (M.w64 (1 + M.nextV 3 (M.nextL 3 (M.nextL 3 (List.take 300 s)))))).toNat (M.matL ((M.w64 (1 + M.nextV 3 (List.take 300 s))) * (M.w64 (1 + M.nextV 3 (M.nextL 3 (List.take 300 s))))).toNat (M.nextL 3 (M.nextL 3 (M.nextL 3 (List.take 300 s)))))))) (M.mulO (M.w64 (1 + M.nextV 3 (List.take 300 s))) (M.w64 (1 + M.nextV 3 (M.nextL 3 (List.take 300 s)))) (M.matD ((M.w64 (1 + M.nextV 3 (List.take 300 s))) * (M.w64 (1 + M.nextV 3 (M.nextL 3 (List.take 300 s))))).toNat (M.nextL 3 (M.nextL 3 (M.nextL 3 (List.take 300 s))))) (M.w64 (1 + M.nextV 3 (M.nextL 3 (List.take 300 s)))) (M.w64 (1 + M.nextV 3 (M.nextL 3 (M.nextL 3 (List.take 300 s))))) (M.matD ((M.w64 (1 + M.nextV 3 (M.nextL 3 (List.take 300 s)))) * (M.w64 (1 + M.nextV 3 (M.nextL 3 (M.nextL 3 (List.take 300 s)))))).toNat (M.matL ((M.w64 (1 + M.nextV 3 (M.nextL 3 (List.take 300 s)))) * (M.w64 (1 + M.nextV 3 (M.nextL 3 (M.nextL 3 (List.take 300 s)))))).toNat (M.matL ((M.w64 (1 + M.nextV 3 (List.take 300 s))) * (M.w64 (1 + M.nextV 3 (M.nextL 3 (List.take 300 s))))).toNat (M.nextL 3 (M.nextL 3 (M.nextL 3 (List.take 300 s)))))))) (M.mulC (M.w64 (1 + M.nextV 3 (List.take 300 s))) (M.w64 (1 + M.nextV 3 (M.nextL 3 (List.take 300 s)))) (M.matD ((M.w64 (1 + M.nextV 3 (List.take 300 s))) * (M.w64 (1 + M.nextV 3 (M.nextL 3 (List.take 300 s))))).toNat (M.nextL 3 (M.nextL 3 (M.nextL 3 (List.take 300 s))))) (M.w64 (1 + M.nextV 3 (M.nextL 3 (List.take 300 s)))) (M.w64 (1 + M.nextV 3 (M.nextL 3 (M.nextL 3 (List.take 300 s))))) (M.matD ((M.w64 (1 + M.nextV 3 (M.nextL 3 (List.take 300 s)))) * (M.w64 (1 + M.nextV 3 (M.nextL 3 (M.nextL 3 (List.take 300 s)))))).toNat (M.matL ((M.w64 (1 + M.nextV 3 (M.nextL 3 (List.take 300 s)))) * (M.w64 (1 + M.nextV 3 (M.nextL 3 (M.nextL 3 (List.take 300 s)))))).toNat (M.matL ((M.w64 (1 + M.nextV 3 (List.take 300 s))) * (M.w64 (1 + M.nextV 3 (M.nextL 3 (List.take 300 s))))).toNat (M.nextL 3 (M.nextL 3 (M.nextL 3 (List.take 300 s)))))))) then some (AV.bool false, [], 0) else some (AV.bool true, [], 0) else none else some (AV.bool false, [], 0) else none else none else none else some (AV.bool false, [], 0) else none else none else none else none else some (AV.bool false, [], 0) else none else none else none else some (AV.bool false, [], 0) else none else none else none else none else some (AV.bool true, [], 0)) by kernel_rfl).trans ?_
  have h0 := byt_take 300 hs
  have h1 := byt_next (n := 3) h0
  have h2 := byt_next (n := 3) h1
  have h3 := byt_next (n := 3) h2
  have f1 := okM_next h0 h1
  have f2 := okM_next h1 h2
  generalize (M.nextL 3 (M.nextL 3 (M.nextL 3 (List.take 300 s)))) = s0 at *
  generalize (M.w64 (1 + M.nextV 3 (List.take 300 s))) = a0 at *
  generalize (M.w64 (1 + M.nextV 3 (M.nextL 3 (List.take 300 s)))) = b0 at *
  generalize (M.w64 (1 + M.nextV 3 (M.nextL 3 (M.nextL 3 (List.take 300 s))))) = c0 at *
  have hM : ∀ l, (M.matD (a0 * b0).toNat l).length < 4294967296 := fun l => by
    rw [matD_length]; have := (okM_ok f1).2.2.1; omega
  have hN : ∀ l, (M.matD (b0 * c0).toNat l).length < 4294967296 := fun l => by
    rw [matD_length]; have := (okM_ok f2).2.2.1; omega
  have g1 := byt_matL (a0 * b0).toNat h3
  have g2 := byt_matL (b0 * c0).toNat g1
  by_cases ha : (a.length : Int) ≤ 100
  · by_cases hb : (b.length : Int) ≤ 100
    · simp only [decide_eq_true ha, decide_eq_true hb, f1, f2, h3, g1, g2, decide_eq_true (by omega : a.length < 4294967296), decide_eq_true (by omega : b.length < 4294967296), decide_eq_true (hM _), decide_eq_true (hN _), decide_eq_true (mulC_len _ _ _ _ _ _), beq_self_eq_true, bne_self_eq_false, sameM_self, Bool.not_true, Bool.not_false, Bool.and_true, Bool.and_self, cond_true, cond_false]
    · simp only [decide_eq_true ha, decide_eq_false hb, Bool.not_true, Bool.not_false, cond_true, cond_false]
  · simp only [decide_eq_false ha, Bool.not_true, Bool.not_false, cond_true, cond_false]

theorem matrixMuls_lifted (os : Os) (started : os.Started) (H : Type) (enc : TypeId × Value → H) :
    ReturnsInHanded {} Try.checked os 7 .any (Rows.matrixMulsSpec.pre6 enc Try.prog Try.f7 Rows.matrixMulsRow.domain false) (Rows.matrixMulsSpec.post enc Try.prog Try.f7 false true false false) := by
  refine returnsInHanded_of_change (C := Try.checked) own started (by kernel_rfl) Try.func7
    (ChangeSpec.witness6 (enc := enc) (C := Try.checked) false ⟨#[], #[.agg #[.int .i64 0, .int .i64 0, .slice none 0 0], .agg #[.int .i64 0, .int .i64 0, .slice none 0 0], .slice none 0 0], []⟩ 8 (by kernel_rfl) (by kernel_rfl) (by kernel_rfl) (by kernel_rfl)) ?_
  intro W base args ds gs before hval0 hW hcnd _
  have hval : ∀ (j : Nat) t v, Try.f7.params[j]? = some t → args[j]? = some v → Value.okWide Try.prog W .any base t v := hval0
  have hW' := hW
  obtain ⟨p, q, hA0, hV, rfl, hfz, hnd⟩ := hW
  have hA : DataW.TrodAll enc Try.prog W 0 (fun _ => true) true Try.f7.params.toList args.toList ds p := hA0
  rw [Try.params7] at hA hval
  obtain ⟨v0, v1, v2, d0, d1, d2, p0, p1, p2, rfl, rfl, rfl, h0, h1, h2⟩ := trodAll_three hA
  obtain ⟨rfl, rfl⟩ := trodVars_none hV
  obtain ⟨cs0, rfl, hs0⟩ := okWide_agg Try.underlying24 (hval 0 24 v0 rfl rfl)
  have hn0 : Try.prog.cellsOf 24 = 3 := by kernel_rfl
  rw [hn0] at hs0
  obtain ⟨f0, hf0⟩ := h0
  obtain ⟨cs0_0⟩ := cs0
  have hs0_0 : cs0_0.length = 3 := hs0
  obtain ⟨c0_0, cs0_1, rfl, hs0_1⟩ := len_succ hs0_0
  obtain ⟨c0_1, cs0_2, rfl, hs0_2⟩ := len_succ hs0_1
  obtain ⟨c0_2, cs0_3, rfl, hs0_3⟩ := len_succ hs0_2
  obtain rfl := List.length_eq_zero_iff.1 hs0_3
  have g0 : DataW.trod enc Try.prog W 0 (fun _ => true) true f0 24 [c0_0, c0_1, c0_2] = some (d0, p0) := hf0
  obtain ⟨mg0_0, yg0_0, g0_0⟩ := trod_sub' Try.underlying24 g0 0 0 1 (u := 3) (ds := [c0_0]) rfl (by kernel_rfl) rfl
  obtain ⟨n, eg0_0, _, w_n⟩ := DataW.trod_int Try.underlying3 g0_0
  obtain rfl := List.singleton_inj.1 eg0_0
  obtain ⟨mg0_1, yg0_1, g0_1⟩ := trod_sub' Try.underlying24 g0 1 1 1 (u := 3) (ds := [c0_1]) rfl (by kernel_rfl) rfl
  obtain ⟨m, eg0_1, _, w_m⟩ := DataW.trod_int Try.underlying3 g0_1
  obtain rfl := List.singleton_inj.1 eg0_1
  obtain ⟨mg0_2, yg0_2, g0_2⟩ := trod_sub' Try.underlying24 g0 2 2 1 (u := 22) (ds := [c0_2]) rfl (by kernel_rfl) rfl
  obtain ⟨a, h_a, w_a⟩ := open_rowT Try.underlying22 Try.underlying3 (by kernel_rfl) g0_2
  have r_n : -9223372036854775808 ≤ n ∧ n ≤ 9223372036854775807 := by
    simp only [Lit.wf, IntKind.min, IntKind.max, IntKind.signed, IntKind.bits, Bool.and_eq_true, decide_eq_true_eq] at w_n
    simpa using w_n
  have r_m : -9223372036854775808 ≤ m ∧ m ≤ 9223372036854775807 := by
    simp only [Lit.wf, IntKind.min, IntKind.max, IntKind.signed, IntKind.bits, Bool.and_eq_true, decide_eq_true_eq] at w_m
    simpa using w_m
  obtain ⟨cs1, rfl, hs1⟩ := okWide_agg Try.underlying24 (hval 1 24 v1 rfl rfl)
  have hn1 : Try.prog.cellsOf 24 = 3 := by kernel_rfl
  rw [hn1] at hs1
  obtain ⟨f1, hf1⟩ := h1
  obtain ⟨cs1_0⟩ := cs1
  have hs1_0 : cs1_0.length = 3 := hs1
  obtain ⟨c1_0, cs1_1, rfl, hs1_1⟩ := len_succ hs1_0
  obtain ⟨c1_1, cs1_2, rfl, hs1_2⟩ := len_succ hs1_1
  obtain ⟨c1_2, cs1_3, rfl, hs1_3⟩ := len_succ hs1_2
  obtain rfl := List.length_eq_zero_iff.1 hs1_3
  have g1 : DataW.trod enc Try.prog W 0 (fun _ => true) true f1 24 [c1_0, c1_1, c1_2] = some (d1, p1) := hf1
  obtain ⟨mg1_0, yg1_0, g1_0⟩ := trod_sub' Try.underlying24 g1 0 0 1 (u := 3) (ds := [c1_0]) rfl (by kernel_rfl) rfl
  obtain ⟨n', eg1_0, _, w_n'⟩ := DataW.trod_int Try.underlying3 g1_0
  obtain rfl := List.singleton_inj.1 eg1_0
  obtain ⟨mg1_1, yg1_1, g1_1⟩ := trod_sub' Try.underlying24 g1 1 1 1 (u := 3) (ds := [c1_1]) rfl (by kernel_rfl) rfl
  obtain ⟨m', eg1_1, _, w_m'⟩ := DataW.trod_int Try.underlying3 g1_1
  obtain rfl := List.singleton_inj.1 eg1_1
  obtain ⟨mg1_2, yg1_2, g1_2⟩ := trod_sub' Try.underlying24 g1 2 2 1 (u := 22) (ds := [c1_2]) rfl (by kernel_rfl) rfl
  obtain ⟨b, h_b, w_b⟩ := open_rowT Try.underlying22 Try.underlying3 (by kernel_rfl) g1_2
  have r_n' : -9223372036854775808 ≤ n' ∧ n' ≤ 9223372036854775807 := by
    simp only [Lit.wf, IntKind.min, IntKind.max, IntKind.signed, IntKind.bits, Bool.and_eq_true, decide_eq_true_eq] at w_n'
    simpa using w_n'
  have r_m' : -9223372036854775808 ≤ m' ∧ m' ≤ 9223372036854775807 := by
    simp only [Lit.wf, IntKind.min, IntKind.max, IntKind.signed, IntKind.bits, Bool.and_eq_true, decide_eq_true_eq] at w_m'
    simpa using w_m'
  obtain ⟨a_s, len_s, cap_s, rfl⟩ := okWide_slice Try.underlying28 (hval 2 28 v2 rfl rfl)
  obtain ⟨s, h_s, w_s⟩ := open_row' Try.underlying28 Try.underlying5 (by kernel_rfl) ⟨_, rfl, rfl⟩ h2
  have hcalls := pure_of_callB q5_ok noCall_ok (m := 10) (e_law n m n' m' a b s (byt_of_wf w_s)) rfl (fun b _ => b < W.heap.size) W [.agg #[.int .i64 n, .int .i64 m, c0_2], .agg #[.int .i64 n', .int .i64 m', c1_2], .slice a_s len_s cap_s] (fun b _ h => h)
    (.cons ⟨_, rfl, (.cons (.int _ _) (.cons (.int _ _) (.cons h_a .nil)))⟩ (.cons ⟨_, rfl, (.cons (.int _ _) (.cons (.int _ _) (.cons h_b .nil)))⟩ (.cons h_s .nil)))
  refine hcalls.mono fun e W' ⟨V, he, hs, hbl, hos, hout, hV⟩ => ?_
  cases hV
  exact ⟨_, he, law_post laidOut hW' rfl rfl rfl rfl (by kernel_rfl) Try.underlying4 (by rw [Try.params7]; intro t ht; simp at ht; rcases ht with rfl | rfl <;> exact ⟨by kernel_rfl, by decide +kernel⟩) hos hout hbl⟩

theorem matrixMuls_holds : Rows.MatrixMulsSaid :=
  OpenClaim.holds_of_wide 7 Try.f7 rfl rfl rfl rfl rfl rfl rfl ⟨rfl, rfl, rfl, rfl, rfl⟩ rfl rfl rfl rfl rfl (by kernel_rfl) Try.func7 (by kernel_rfl)
    (of_decide_eq_true (by kernel_rfl)) (by unfold Func.isWrapper; first | (rw [if_pos (by decide +kernel)]; kernel_rfl) | (rw [if_neg (by decide +kernel)]; exact ⟨rfl, rfl⟩))
    (fun os started H enc _ => matrixMuls_lifted os started H enc)

end Go.Proofs.Ytplcpdjabjjfiaa
