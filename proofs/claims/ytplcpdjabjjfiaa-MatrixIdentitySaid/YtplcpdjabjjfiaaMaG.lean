/- The models of matrices: products, the program. -/
import Derived.Test.YtplcpdjabjjfiaaMaF
namespace Go.Proofs.Ytplcpdjabjjfiaa
open Am
set_option maxRecDepth 100000
set_option linter.unusedVariables false
set_option linter.unusedSimpArgs false
set_option maxHeartbeats 4000000

theorem r_rows (n m : Int) (l : List Int) (hc : M.okRw n m l = true) : RawOK b4.P 34 [.agg [.int .i64 n, .int .i64 m, .vi .i64 l]] [] 0 (.vr .i64 (M.rowsL n m l)) [] 0 := by
  cases hk : M.okRw n m l with
  | false => simp [hk] at hc
  | true =>
    unfold M.okRw at hk
    simp only [Bool.and_eq_true, decide_eq_true_eq] at hk
    obtain ⟨⟨⟨⟨n1, n2⟩, m1⟩, m2⟩, hl⟩ := hk
    have hcut := fun i hi => row_cut n1 n2 l i hi
    have hcond := fun i hi => row_conds n1 n2 m2 hl i hi
    have hm : m = 1 ∨ m = 2 ∨ m = 3 ∨ m = 4 ∨ m = 5 ∨ m = 6 ∨ m = 7 ∨ m = 8 := by omega
    rcases hm with rfl | rfl | rfl | rfl | rfl | rfl | rfl | rfl
    · refine RawOK.weak (v := .vc 1 1 (M.rowsA n l 1)) ?_ (.leaf (.leaf (.tab .i64 (M.rowsL n 1 l))))
      refine callB_ok b4_ok noCall_ok 10 _ _ _ _ _ _ _ ((show callB b4 noCall 10 34 [.agg [.int .i64 n, .int .i64 1, .vi .i64 l]] [] 0 = (bif decide (0 ≤ M.w64 (((0 : Nat) : Int) * n)) && decide (M.w64 (((0 : Nat) : Int) * n) ≤ M.w64 (((0 + 1 : Nat) : Int) * n)) && decide (M.w64 (((0 + 1 : Nat) : Int) * n) ≤ M.w64 (((0 + 1 : Nat) : Int) * n)) && decide (M.w64 (((0 + 1 : Nat) : Int) * n) ≤ (l.length : Int)) && true then some (.vc 1 1 [.vi .i64 ((l.drop ((M.w64 (((0 : Nat) : Int) * n)).toNat * 1)).take (((M.w64 (((0 + 1 : Nat) : Int) * n)).toNat - (M.w64 (((0 : Nat) : Int) * n)).toNat) * 1))], [], 0) else none) by kernel_rfl).trans ?_)
      obtain ⟨c00, c01, c02, c03⟩ := hcond 0 (by omega)
      simp only [c00, c01, c02, c03, Bool.and_true, cond_true, hcut 0 (by omega)]
      rfl
    · refine RawOK.weak (v := .vc 1 2 (M.rowsA n l 2)) ?_ (.leaf (.leaf (.tab .i64 (M.rowsL n 2 l))))
      refine callB_ok b4_ok noCall_ok 10 _ _ _ _ _ _ _ ((show callB b4 noCall 10 34 [.agg [.int .i64 n, .int .i64 2, .vi .i64 l]] [] 0 = (bif decide (0 ≤ M.w64 (((0 : Nat) : Int) * n)) && decide (M.w64 (((0 : Nat) : Int) * n) ≤ M.w64 (((0 + 1 : Nat) : Int) * n)) && decide (M.w64 (((0 + 1 : Nat) : Int) * n) ≤ M.w64 (((0 + 1 : Nat) : Int) * n)) && decide (M.w64 (((0 + 1 : Nat) : Int) * n) ≤ (l.length : Int)) && true then (bif decide (0 ≤ M.w64 (((1 : Nat) : Int) * n)) && decide (M.w64 (((1 : Nat) : Int) * n) ≤ M.w64 (((1 + 1 : Nat) : Int) * n)) && decide (M.w64 (((1 + 1 : Nat) : Int) * n) ≤ M.w64 (((1 + 1 : Nat) : Int) * n)) && decide (M.w64 (((1 + 1 : Nat) : Int) * n) ≤ (l.length : Int)) && true then some (.vc 1 2 [.vi .i64 ((l.drop ((M.w64 (((0 : Nat) : Int) * n)).toNat * 1)).take (((M.w64 (((0 + 1 : Nat) : Int) * n)).toNat - (M.w64 (((0 : Nat) : Int) * n)).toNat) * 1)), .vi .i64 ((l.drop ((M.w64 (((1 : Nat) : Int) * n)).toNat * 1)).take (((M.w64 (((1 + 1 : Nat) : Int) * n)).toNat - (M.w64 (((1 : Nat) : Int) * n)).toNat) * 1))], [], 0) else none) else none) by kernel_rfl).trans ?_)
      obtain ⟨c00, c01, c02, c03⟩ := hcond 0 (by omega)
      obtain ⟨c10, c11, c12, c13⟩ := hcond 1 (by omega)
      simp only [c00, c01, c02, c03, c10, c11, c12, c13, Bool.and_true, cond_true, hcut 0 (by omega), hcut 1 (by omega)]
      rfl
    · refine RawOK.weak (v := .vc 1 3 (M.rowsA n l 3)) ?_ (.leaf (.leaf (.tab .i64 (M.rowsL n 3 l))))
      refine callB_ok b4_ok noCall_ok 10 _ _ _ _ _ _ _ ((show callB b4 noCall 10 34 [.agg [.int .i64 n, .int .i64 3, .vi .i64 l]] [] 0 = (bif decide (0 ≤ M.w64 (((0 : Nat) : Int) * n)) && decide (M.w64 (((0 : Nat) : Int) * n) ≤ M.w64 (((0 + 1 : Nat) : Int) * n)) && decide (M.w64 (((0 + 1 : Nat) : Int) * n) ≤ M.w64 (((0 + 1 : Nat) : Int) * n)) && decide (M.w64 (((0 + 1 : Nat) : Int) * n) ≤ (l.length : Int)) && true then (bif decide (0 ≤ M.w64 (((1 : Nat) : Int) * n)) && decide (M.w64 (((1 : Nat) : Int) * n) ≤ M.w64 (((1 + 1 : Nat) : Int) * n)) && decide (M.w64 (((1 + 1 : Nat) : Int) * n) ≤ M.w64 (((1 + 1 : Nat) : Int) * n)) && decide (M.w64 (((1 + 1 : Nat) : Int) * n) ≤ (l.length : Int)) && true then (bif decide (0 ≤ M.w64 (((2 : Nat) : Int) * n)) && decide (M.w64 (((2 : Nat) : Int) * n) ≤ M.w64 (((2 + 1 : Nat) : Int) * n)) && decide (M.w64 (((2 + 1 : Nat) : Int) * n) ≤ M.w64 (((2 + 1 : Nat) : Int) * n)) && decide (M.w64 (((2 + 1 : Nat) : Int) * n) ≤ (l.length : Int)) && true then some (.vc 1 3 [.vi .i64 ((l.drop ((M.w64 (((0 : Nat) : Int) * n)).toNat * 1)).take (((M.w64 (((0 + 1 : Nat) : Int) * n)).toNat - (M.w64 (((0 : Nat) : Int) * n)).toNat) * 1)), .vi .i64 ((l.drop ((M.w64 (((1 : Nat) : Int) * n)).toNat * 1)).take (((M.w64 (((1 + 1 : Nat) : Int) * n)).toNat - (M.w64 (((1 : Nat) : Int) * n)).toNat) * 1)), .vi .i64 ((l.drop ((M.w64 (((2 : Nat) : Int) * n)).toNat * 1)).take (((M.w64 (((2 + 1 : Nat) : Int) * n)).toNat - (M.w64 (((2 : Nat) : Int) * n)).toNat) * 1))], [], 0) else none) else none) else none) by kernel_rfl).trans ?_)
      obtain ⟨c00, c01, c02, c03⟩ := hcond 0 (by omega)
      obtain ⟨c10, c11, c12, c13⟩ := hcond 1 (by omega)
      obtain ⟨c20, c21, c22, c23⟩ := hcond 2 (by omega)
      simp only [c00, c01, c02, c03, c10, c11, c12, c13, c20, c21, c22, c23, Bool.and_true, cond_true, hcut 0 (by omega), hcut 1 (by omega), hcut 2 (by omega)]
      rfl
    · refine RawOK.weak (v := .vc 1 4 (M.rowsA n l 4)) ?_ (.leaf (.leaf (.tab .i64 (M.rowsL n 4 l))))
      refine callB_ok b4_ok noCall_ok 10 _ _ _ _ _ _ _ ((show callB b4 noCall 10 34 [.agg [.int .i64 n, .int .i64 4, .vi .i64 l]] [] 0 = (bif decide (0 ≤ M.w64 (((0 : Nat) : Int) * n)) && decide (M.w64 (((0 : Nat) : Int) * n) ≤ M.w64 (((0 + 1 : Nat) : Int) * n)) && decide (M.w64 (((0 + 1 : Nat) : Int) * n) ≤ M.w64 (((0 + 1 : Nat) : Int) * n)) && decide (M.w64 (((0 + 1 : Nat) : Int) * n) ≤ (l.length : Int)) && true then (bif decide (0 ≤ M.w64 (((1 : Nat) : Int) * n)) && decide (M.w64 (((1 : Nat) : Int) * n) ≤ M.w64 (((1 + 1 : Nat) : Int) * n)) && decide (M.w64 (((1 + 1 : Nat) : Int) * n) ≤ M.w64 (((1 + 1 : Nat) : Int) * n)) && decide (M.w64 (((1 + 1 : Nat) : Int) * n) ≤ (l.length : Int)) && true then (bif decide (0 ≤ M.w64 (((2 : Nat) : Int) * n)) && decide (M.w64 (((2 : Nat) : Int) * n) ≤ M.w64 (((2 + 1 : Nat) : Int) * n)) && decide (M.w64 (((2 + 1 : Nat) : Int) * n) ≤ M.w64 (((2 + 1 : Nat) : Int) * n)) && decide (M.w64 (((2 + 1 : Nat) : Int) * n) ≤ (l.length : Int)) && true then (bif decide (0 ≤ M.w64 (((3 : Nat) : Int) * n)) && decide (M.w64 (((3 : Nat) : Int) * n) ≤ M.w64 (((3 + 1 : Nat) : Int) * n)) && decide (M.w64 (((3 + 1 : Nat) : Int) * n) ≤ M.w64 (((3 + 1 : Nat) : Int) * n)) && decide (M.w64 (((3 + 1 : Nat) : Int) * n) ≤ (l.length : Int)) && true then some (.vc 1 4 [.vi .i64 ((l.drop ((M.w64 (((0 : Nat) : Int) * n)).toNat * 1)).take (((M.w64 (((0 + 1 : Nat) : Int) * n)).toNat - (M.w64 (((0 : Nat) : Int) * n)).toNat) * 1)), .vi .i64 ((l.drop ((M.w64 (((1 : Nat) : Int) * n)).toNat * 1)).take (((M.w64 (((1 + 1 : Nat) : Int) * n)).toNat - (M.w64 (((1 : Nat) : Int) * n)).toNat) * 1)), .vi .i64 ((l.drop ((M.w64 (((2 : Nat) : Int) * n)).toNat * 1)).take (((M.w64 (((2 + 1 : Nat) : Int) * n)).toNat - (M.w64 (((2 : Nat) : Int) * n)).toNat) * 1)), .vi .i64 ((l.drop ((M.w64 (((3 : Nat) : Int) * n)).toNat * 1)).take (((M.w64 (((3 + 1 : Nat) : Int) * n)).toNat - (M.w64 (((3 : Nat) : Int) * n)).toNat) * 1))], [], 0) else none) else none) else none) else none) by kernel_rfl).trans ?_)
      obtain ⟨c00, c01, c02, c03⟩ := hcond 0 (by omega)
      obtain ⟨c10, c11, c12, c13⟩ := hcond 1 (by omega)
      obtain ⟨c20, c21, c22, c23⟩ := hcond 2 (by omega)
      obtain ⟨c30, c31, c32, c33⟩ := hcond 3 (by omega)
      simp only [c00, c01, c02, c03, c10, c11, c12, c13, c20, c21, c22, c23, c30, c31, c32, c33, Bool.and_true, cond_true, hcut 0 (by omega), hcut 1 (by omega), hcut 2 (by omega), hcut 3 (by omega)]
      rfl
    · refine RawOK.weak (v := .vc 1 5 (M.rowsA n l 5)) ?_ (.leaf (.leaf (.tab .i64 (M.rowsL n 5 l))))
      refine callB_ok b4_ok noCall_ok 10 _ _ _ _ _ _ _ ((show callB b4 noCall 10 34 [.agg [.int .i64 n, .int .i64 5, .vi .i64 l]] [] 0 = (bif decide (0 ≤ M.w64 (((0 : Nat) : Int) * n)) && decide (M.w64 (((0 : Nat) : Int) * n) ≤ M.w64 (((0 + 1 : Nat) : Int) * n)) && decide (M.w64 (((0 + 1 : Nat) : Int) * n) ≤ M.w64 (((0 + 1 : Nat) : Int) * n)) && decide (M.w64 (((0 + 1 : Nat) : Int) * n) ≤ (l.length : Int)) && true then (bif decide (0 ≤ M.w64 (((1 : Nat) : Int) * n)) && decide (M.w64 (((1 : Nat) : Int) * n) ≤ M.w64 (((1 + 1 : Nat) : Int) * n)) && decide (M.w64 (((1 + 1 : Nat) : Int) * n) ≤ M.w64 (((1 + 1 : Nat) : Int) * n)) && decide (M.w64 (((1 + 1 : Nat) : Int) * n) ≤ (l.length : Int)) && true then (bif decide (0 ≤ M.w64 (((2 : Nat) : Int) * n)) && decide (M.w64 (((2 : Nat) : Int) * n) ≤ M.w64 (((2 + 1 : Nat) : Int) * n)) && decide (M.w64 (((2 + 1 : Nat) : Int) * n) ≤ M.w64 (((2 + 1 : Nat) : Int) * n)) && decide (M.w64 (((2 + 1 : Nat) : Int) * n) ≤ (l.length : Int)) && true then (bif decide (0 ≤ M.w64 (((3 : Nat) : Int) * n)) && decide (M.w64 (((3 : Nat) : Int) * n) ≤ M.w64 (((3 + 1 : Nat) : Int) * n)) && decide (M.w64 (((3 + 1 : Nat) : Int) * n) ≤ M.w64 (((3 + 1 : Nat) : Int) * n)) && decide (M.w64 (((3 + 1 : Nat) : Int) * n) ≤ (l.length : Int)) && true then (bif decide (0 ≤ M.w64 (((4 : Nat) : Int) * n)) && decide (M.w64 (((4 : Nat) : Int) * n) ≤ M.w64 (((4 + 1 : Nat) : Int) * n)) && decide (M.w64 (((4 + 1 : Nat) : Int) * n) ≤ M.w64 (((4 + 1 : Nat) : Int) * n)) && decide (M.w64 (((4 + 1 : Nat) : Int) * n) ≤ (l.length : Int)) && true then some (.vc 1 5 [.vi .i64 ((l.drop ((M.w64 (((0 : Nat) : Int) * n)).toNat * 1)).take (((M.w64 (((0 + 1 : Nat) : Int) * n)).toNat - (M.w64 (((0 : Nat) : Int) * n)).toNat) * 1)), .vi .i64 ((l.drop ((M.w64 (((1 : Nat) : Int) * n)).toNat * 1)).take (((M.w64 (((1 + 1 : Nat) : Int) * n)).toNat - (M.w64 (((1 : Nat) : Int) * n)).toNat) * 1)), .vi .i64 ((l.drop ((M.w64 (((2 : Nat) : Int) * n)).toNat * 1)).take (((M.w64 (((2 + 1 : Nat) : Int) * n)).toNat - (M.w64 (((2 : Nat) : Int) * n)).toNat) * 1)), .vi .i64 ((l.drop ((M.w64 (((3 : Nat) : Int) * n)).toNat * 1)).take (((M.w64 (((3 + 1 : Nat) : Int) * n)).toNat - (M.w64 (((3 : Nat) : Int) * n)).toNat) * 1)), .vi .i64 ((l.drop ((M.w64 (((4 : Nat) : Int) * n)).toNat * 1)).take (((M.w64 (((4 + 1 : Nat) : Int) * n)).toNat - (M.w64 (((4 : Nat) : Int) * n)).toNat) * 1))], [], 0) else none) else none) else none) else none) else none) by kernel_rfl).trans ?_)
      obtain ⟨c00, c01, c02, c03⟩ := hcond 0 (by omega)
      obtain ⟨c10, c11, c12, c13⟩ := hcond 1 (by omega)
      obtain ⟨c20, c21, c22, c23⟩ := hcond 2 (by omega)
      obtain ⟨c30, c31, c32, c33⟩ := hcond 3 (by omega)
      obtain ⟨c40, c41, c42, c43⟩ := hcond 4 (by omega)
      simp only [c00, c01, c02, c03, c10, c11, c12, c13, c20, c21, c22, c23, c30, c31, c32, c33, c40, c41, c42, c43, Bool.and_true, cond_true, hcut 0 (by omega), hcut 1 (by omega), hcut 2 (by omega), hcut 3 (by omega), hcut 4 (by omega)]
      rfl
    · refine RawOK.weak (v := .vc 1 6 (M.rowsA n l 6)) ?_ (.leaf (.leaf (.tab .i64 (M.rowsL n 6 l))))
      refine callB_ok b4_ok noCall_ok 10 _ _ _ _ _ _ _ ((show callB b4 noCall 10 34 [.agg [.int .i64 n, .int .i64 6, .vi .i64 l]] [] 0 = (bif decide (0 ≤ M.w64 (((0 : Nat) : Int) * n)) && decide (M.w64 (((0 : Nat) : Int) * n) ≤ M.w64 (((0 + 1 : Nat) : Int) * n)) && decide (M.w64 (((0 + 1 : Nat) : Int) * n) ≤ M.w64 (((0 + 1 : Nat) : Int) * n)) && decide (M.w64 (((0 + 1 : Nat) : Int) * n) ≤ (l.length : Int)) && true then (bif decide (0 ≤ M.w64 (((1 : Nat) : Int) * n)) && decide (M.w64 (((1 : Nat) : Int) * n) ≤ M.w64 (((1 + 1 : Nat) : Int) * n)) && decide (M.w64 (((1 + 1 : Nat) : Int) * n) ≤ M.w64 (((1 + 1 : Nat) : Int) * n)) && decide (M.w64 (((1 + 1 : Nat) : Int) * n) ≤ (l.length : Int)) && true then (bif decide (0 ≤ M.w64 (((2 : Nat) : Int) * n)) && decide (M.w64 (((2 : Nat) : Int) * n) ≤ M.w64 (((2 + 1 : Nat) : Int) * n)) && decide (M.w64 (((2 + 1 : Nat) : Int) * n) ≤ M.w64 (((2 + 1 : Nat) : Int) * n)) && decide (M.w64 (((2 + 1 : Nat) : Int) * n) ≤ (l.length : Int)) && true then (bif decide (0 ≤ M.w64 (((3 : Nat) : Int) * n)) && decide (M.w64 (((3 : Nat) : Int) * n) ≤ M.w64 (((3 + 1 : Nat) : Int) * n)) && decide (M.w64 (((3 + 1 : Nat) : Int) * n) ≤ M.w64 (((3 + 1 : Nat) : Int) * n)) && decide (M.w64 (((3 + 1 : Nat) : Int) * n) ≤ (l.length : Int)) && true then (bif decide (0 ≤ M.w64 (((4 : Nat) : Int) * n)) && decide (M.w64 (((4 : Nat) : Int) * n) ≤ M.w64 (((4 + 1 : Nat) : Int) * n)) && decide (M.w64 (((4 + 1 : Nat) : Int) * n) ≤ M.w64 (((4 + 1 : Nat) : Int) * n)) && decide (M.w64 (((4 + 1 : Nat) : Int) * n) ≤ (l.length : Int)) && true then (bif decide (0 ≤ M.w64 (((5 : Nat) : Int) * n)) && decide (M.w64 (((5 : Nat) : Int) * n) ≤ M.w64 (((5 + 1 : Nat) : Int) * n)) && decide (M.w64 (((5 + 1 : Nat) : Int) * n) ≤ M.w64 (((5 + 1 : Nat) : Int) * n)) && decide (M.w64 (((5 + 1 : Nat) : Int) * n) ≤ (l.length : Int)) && true then some (.vc 1 6 [.vi .i64 ((l.drop ((M.w64 (((0 : Nat) : Int) * n)).toNat * 1)).take (((M.w64 (((0 + 1 : Nat) : Int) * n)).toNat - (M.w64 (((0 : Nat) : Int) * n)).toNat) * 1)), .vi .i64 ((l.drop ((M.w64 (((1 : Nat) : Int) * n)).toNat * 1)).take (((M.w64 (((1 + 1 : Nat) : Int) * n)).toNat - (M.w64 (((1 : Nat) : Int) * n)).toNat) * 1)), .vi .i64 ((l.drop ((M.w64 (((2 : Nat) : Int) * n)).toNat * 1)).take (((M.w64 (((2 + 1 : Nat) : Int) * n)).toNat - (M.w64 (((2 : Nat) : Int) * n)).toNat) * 1)), .vi .i64 ((l.drop ((M.w64 (((3 : Nat) : Int) * n)).toNat * 1)).take (((M.w64 (((3 + 1 : Nat) : Int) * n)).toNat - (M.w64 (((3 : Nat) : Int) * n)).toNat) * 1)), .vi .i64 ((l.drop ((M.w64 (((4 : Nat) : Int) * n)).toNat * 1)).take (((M.w64 (((4 + 1 : Nat) : Int) * n)).toNat - (M.w64 (((4 : Nat) : Int) * n)).toNat) * 1)), .vi .i64 ((l.drop ((M.w64 (((5 : Nat) : Int) * n)).toNat * 1)).take (((M.w64 (((5 + 1 : Nat) : Int) * n)).toNat - (M.w64 (((5 : Nat) : Int) * n)).toNat) * 1))], [], 0) else none) else none) else none) else none) else none) else none) by kernel_rfl).trans ?_)
      obtain ⟨c00, c01, c02, c03⟩ := hcond 0 (by omega)
      obtain ⟨c10, c11, c12, c13⟩ := hcond 1 (by omega)
      obtain ⟨c20, c21, c22, c23⟩ := hcond 2 (by omega)
      obtain ⟨c30, c31, c32, c33⟩ := hcond 3 (by omega)
      obtain ⟨c40, c41, c42, c43⟩ := hcond 4 (by omega)
      obtain ⟨c50, c51, c52, c53⟩ := hcond 5 (by omega)
      simp only [c00, c01, c02, c03, c10, c11, c12, c13, c20, c21, c22, c23, c30, c31, c32, c33, c40, c41, c42, c43, c50, c51, c52, c53, Bool.and_true, cond_true, hcut 0 (by omega), hcut 1 (by omega), hcut 2 (by omega), hcut 3 (by omega), hcut 4 (by omega), hcut 5 (by omega)]
      rfl
    · refine RawOK.weak (v := .vc 1 7 (M.rowsA n l 7)) ?_ (.leaf (.leaf (.tab .i64 (M.rowsL n 7 l))))
      refine callB_ok b4_ok noCall_ok 10 _ _ _ _ _ _ _ ((show callB b4 noCall 10 34 [.agg [.int .i64 n, .int .i64 7, .vi .i64 l]] [] 0 = (bif decide (0 ≤ M.w64 (((0 : Nat) : Int) * n)) && decide (M.w64 (((0 : Nat) : Int) * n) ≤ M.w64 (((0 + 1 : Nat) : Int) * n)) && decide (M.w64 (((0 + 1 : Nat) : Int) * n) ≤ M.w64 (((0 + 1 : Nat) : Int) * n)) && decide (M.w64 (((0 + 1 : Nat) : Int) * n) ≤ (l.length : Int)) && true then (bif decide (0 ≤ M.w64 (((1 : Nat) : Int) * n)) && decide (M.w64 (((1 : Nat) : Int) * n) ≤ M.w64 (((1 + 1 : Nat) : Int) * n)) && decide (M.w64 (((1 + 1 : Nat) : Int) * n) ≤ M.w64 (((1 + 1 : Nat) : Int) * n)) && decide (M.w64 (((1 + 1 : Nat) : Int) * n) ≤ (l.length : Int)) && true then (bif decide (0 ≤ M.w64 (((2 : Nat) : Int) * n)) && decide (M.w64 (((2 : Nat) : Int) * n) ≤ M.w64 (((2 + 1 : Nat) : Int) * n)) && decide (M.w64 (((2 + 1 : Nat) : Int) * n) ≤ M.w64 (((2 + 1 : Nat) : Int) * n)) && decide (M.w64 (((2 + 1 : Nat) : Int) * n) ≤ (l.length : Int)) && true then (bif decide (0 ≤ M.w64 (((3 : Nat) : Int) * n)) && decide (M.w64 (((3 : Nat) : Int) * n) ≤ M.w64 (((3 + 1 : Nat) : Int) * n)) && decide (M.w64 (((3 + 1 : Nat) : Int) * n) ≤ M.w64 (((3 + 1 : Nat) : Int) * n)) && decide (M.w64 (((3 + 1 : Nat) : Int) * n) ≤ (l.length : Int)) && true then (bif decide (0 ≤ M.w64 (((4 : Nat) : Int) * n)) && decide (M.w64 (((4 : Nat) : Int) * n) ≤ M.w64 (((4 + 1 : Nat) : Int) * n)) && decide (M.w64 (((4 + 1 : Nat) : Int) * n) ≤ M.w64 (((4 + 1 : Nat) : Int) * n)) && decide (M.w64 (((4 + 1 : Nat) : Int) * n) ≤ (l.length : Int)) && true then (bif decide (0 ≤ M.w64 (((5 : Nat) : Int) * n)) && decide (M.w64 (((5 : Nat) : Int) * n) ≤ M.w64 (((5 + 1 : Nat) : Int) * n)) && decide (M.w64 (((5 + 1 : Nat) : Int) * n) ≤ M.w64 (((5 + 1 : Nat) : Int) * n)) && decide (M.w64 (((5 + 1 : Nat) : Int) * n) ≤ (l.length : Int)) && true then (bif decide (0 ≤ M.w64 (((6 : Nat) : Int) * n)) && decide (M.w64 (((6 : Nat) : Int) * n) ≤ M.w64 (((6 + 1 : Nat) : Int) * n)) && decide (M.w64 (((6 + 1 : Nat) : Int) * n) ≤ M.w64 (((6 + 1 : Nat) : Int) * n)) && decide (M.w64 (((6 + 1 : Nat) : Int) * n) ≤ (l.length : Int)) && true then some (.vc 1 7 [.vi .i64 ((l.drop ((M.w64 (((0 : Nat) : Int) * n)).toNat * 1)).take (((M.w64 (((0 + 1 : Nat) : Int) * n)).toNat - (M.w64 (((0 : Nat) : Int) * n)).toNat) * 1)), .vi .i64 ((l.drop ((M.w64 (((1 : Nat) : Int) * n)).toNat * 1)).take (((M.w64 (((1 + 1 : Nat) : Int) * n)).toNat - (M.w64 (((1 : Nat) : Int) * n)).toNat) * 1)), .vi .i64 ((l.drop ((M.w64 (((2 : Nat) : Int) * n)).toNat * 1)).take (((M.w64 (((2 + 1 : Nat) : Int) * n)).toNat - (M.w64 (((2 : Nat) : Int) * n)).toNat) * 1)), .vi .i64 ((l.drop ((M.w64 (((3 : Nat) : Int) * n)).toNat * 1)).take (((M.w64 (((3 + 1 : Nat) : Int) * n)).toNat - (M.w64 (((3 : Nat) : Int) * n)).toNat) * 1)), .vi .i64 ((l.drop ((M.w64 (((4 : Nat) : Int) * n)).toNat * 1)).take (((M.w64 (((4 + 1 : Nat) : Int) * n)).toNat - (M.w64 (((4 : Nat) : Int) * n)).toNat) * 1)), .vi .i64 ((l.drop ((M.w64 (((5 : Nat) : Int) * n)).toNat * 1)).take (((M.w64 (((5 + 1 : Nat) : Int) * n)).toNat - (M.w64 (((5 : Nat) : Int) * n)).toNat) * 1)), .vi .i64 ((l.drop ((M.w64 (((6 : Nat) : Int) * n)).toNat * 1)).take (((M.w64 (((6 + 1 : Nat) : Int) * n)).toNat - (M.w64 (((6 : Nat) : Int) * n)).toNat) * 1))], [], 0) else none) else none) else none) else none) else none) else none) else none) by kernel_rfl).trans ?_)
      obtain ⟨c00, c01, c02, c03⟩ := hcond 0 (by omega)
      obtain ⟨c10, c11, c12, c13⟩ := hcond 1 (by omega)
      obtain ⟨c20, c21, c22, c23⟩ := hcond 2 (by omega)
      obtain ⟨c30, c31, c32, c33⟩ := hcond 3 (by omega)
      obtain ⟨c40, c41, c42, c43⟩ := hcond 4 (by omega)
      obtain ⟨c50, c51, c52, c53⟩ := hcond 5 (by omega)
      obtain ⟨c60, c61, c62, c63⟩ := hcond 6 (by omega)
      simp only [c00, c01, c02, c03, c10, c11, c12, c13, c20, c21, c22, c23, c30, c31, c32, c33, c40, c41, c42, c43, c50, c51, c52, c53, c60, c61, c62, c63, Bool.and_true, cond_true, hcut 0 (by omega), hcut 1 (by omega), hcut 2 (by omega), hcut 3 (by omega), hcut 4 (by omega), hcut 5 (by omega), hcut 6 (by omega)]
      rfl
    · refine RawOK.weak (v := .vc 1 8 (M.rowsA n l 8)) ?_ (.leaf (.leaf (.tab .i64 (M.rowsL n 8 l))))
      refine callB_ok b4_ok noCall_ok 10 _ _ _ _ _ _ _ ((show callB b4 noCall 10 34 [.agg [.int .i64 n, .int .i64 8, .vi .i64 l]] [] 0 = (bif decide (0 ≤ M.w64 (((0 : Nat) : Int) * n)) && decide (M.w64 (((0 : Nat) : Int) * n) ≤ M.w64 (((0 + 1 : Nat) : Int) * n)) && decide (M.w64 (((0 + 1 : Nat) : Int) * n) ≤ M.w64 (((0 + 1 : Nat) : Int) * n)) && decide (M.w64 (((0 + 1 : Nat) : Int) * n) ≤ (l.length : Int)) && true then (bif decide (0 ≤ M.w64 (((1 : Nat) : Int) * n)) && decide (M.w64 (((1 : Nat) : Int) * n) ≤ M.w64 (((1 + 1 : Nat) : Int) * n)) && decide (M.w64 (((1 + 1 : Nat) : Int) * n) ≤ M.w64 (((1 + 1 : Nat) : Int) * n)) && decide (M.w64 (((1 + 1 : Nat) : Int) * n) ≤ (l.length : Int)) && true then (bif decide (0 ≤ M.w64 (((2 : Nat) : Int) * n)) && decide (M.w64 (((2 : Nat) : Int) * n) ≤ M.w64 (((2 + 1 : Nat) : Int) * n)) && decide (M.w64 (((2 + 1 : Nat) : Int) * n) ≤ M.w64 (((2 + 1 : Nat) : Int) * n)) && decide (M.w64 (((2 + 1 : Nat) : Int) * n) ≤ (l.length : Int)) && true then (bif decide (0 ≤ M.w64 (((3 : Nat) : Int) * n)) && decide (M.w64 (((3 : Nat) : Int) * n) ≤ M.w64 (((3 + 1 : Nat) : Int) * n)) && decide (M.w64 (((3 + 1 : Nat) : Int) * n) ≤ M.w64 (((3 + 1 : Nat) : Int) * n)) && decide (M.w64 (((3 + 1 : Nat) : Int) * n) ≤ (l.length : Int)) && true then (bif decide (0 ≤ M.w64 (((4 : Nat) : Int) * n)) && decide (M.w64 (((4 : Nat) : Int) * n) ≤ M.w64 (((4 + 1 : Nat) : Int) * n)) && decide (M.w64 (((4 + 1 : Nat) : Int) * n) ≤ M.w64 (((4 + 1 : Nat) : Int) * n)) && decide (M.w64 (((4 + 1 : Nat) : Int) * n) ≤ (l.length : Int)) && true then (bif decide (0 ≤ M.w64 (((5 : Nat) : Int) * n)) && decide (M.w64 (((5 : Nat) : Int) * n) ≤ M.w64 (((5 + 1 : Nat) : Int) * n)) && decide (M.w64 (((5 + 1 : Nat) : Int) * n) ≤ M.w64 (((5 + 1 : Nat) : Int) * n)) && decide (M.w64 (((5 + 1 : Nat) : Int) * n) ≤ (l.length : Int)) && true then (bif decide (0 ≤ M.w64 (((6 : Nat) : Int) * n)) && decide (M.w64 (((6 : Nat) : Int) * n) ≤ M.w64 (((6 + 1 : Nat) : Int) * n)) && decide (M.w64 (((6 + 1 : Nat) : Int) * n) ≤ M.w64 (((6 + 1 : Nat) : Int) * n)) && decide (M.w64 (((6 + 1 : Nat) : Int) * n) ≤ (l.length : Int)) && true then (bif decide (0 ≤ M.w64 (((7 : Nat) : Int) * n)) && decide (M.w64 (((7 : Nat) : Int) * n) ≤ M.w64 (((7 + 1 : Nat) : Int) * n)) && decide (M.w64 (((7 + 1 : Nat) : Int) * n) ≤ M.w64 (((7 + 1 : Nat) : Int) * n)) && decide (M.w64 (((7 + 1 : Nat) : Int) * n) ≤ (l.length : Int)) && true then some (.vc 1 8 [.vi .i64 ((l.drop ((M.w64 (((0 : Nat) : Int) * n)).toNat * 1)).take (((M.w64 (((0 + 1 : Nat) : Int) * n)).toNat - (M.w64 (((0 : Nat) : Int) * n)).toNat) * 1)), .vi .i64 ((l.drop ((M.w64 (((1 : Nat) : Int) * n)).toNat * 1)).take (((M.w64 (((1 + 1 : Nat) : Int) * n)).toNat - (M.w64 (((1 : Nat) : Int) * n)).toNat) * 1)), .vi .i64 ((l.drop ((M.w64 (((2 : Nat) : Int) * n)).toNat * 1)).take (((M.w64 (((2 + 1 : Nat) : Int) * n)).toNat - (M.w64 (((2 : Nat) : Int) * n)).toNat) * 1)), .vi .i64 ((l.drop ((M.w64 (((3 : Nat) : Int) * n)).toNat * 1)).take (((M.w64 (((3 + 1 : Nat) : Int) * n)).toNat - (M.w64 (((3 : Nat) : Int) * n)).toNat) * 1)), .vi .i64 ((l.drop ((M.w64 (((4 : Nat) : Int) * n)).toNat * 1)).take (((M.w64 (((4 + 1 : Nat) : Int) * n)).toNat - (M.w64 (((4 : Nat) : Int) * n)).toNat) * 1)), .vi .i64 ((l.drop ((M.w64 (((5 : Nat) : Int) * n)).toNat * 1)).take (((M.w64 (((5 + 1 : Nat) : Int) * n)).toNat - (M.w64 (((5 : Nat) : Int) * n)).toNat) * 1)), .vi .i64 ((l.drop ((M.w64 (((6 : Nat) : Int) * n)).toNat * 1)).take (((M.w64 (((6 + 1 : Nat) : Int) * n)).toNat - (M.w64 (((6 : Nat) : Int) * n)).toNat) * 1)), .vi .i64 ((l.drop ((M.w64 (((7 : Nat) : Int) * n)).toNat * 1)).take (((M.w64 (((7 + 1 : Nat) : Int) * n)).toNat - (M.w64 (((7 : Nat) : Int) * n)).toNat) * 1))], [], 0) else none) else none) else none) else none) else none) else none) else none) else none) by kernel_rfl).trans ?_)
      obtain ⟨c00, c01, c02, c03⟩ := hcond 0 (by omega)
      obtain ⟨c10, c11, c12, c13⟩ := hcond 1 (by omega)
      obtain ⟨c20, c21, c22, c23⟩ := hcond 2 (by omega)
      obtain ⟨c30, c31, c32, c33⟩ := hcond 3 (by omega)
      obtain ⟨c40, c41, c42, c43⟩ := hcond 4 (by omega)
      obtain ⟨c50, c51, c52, c53⟩ := hcond 5 (by omega)
      obtain ⟨c60, c61, c62, c63⟩ := hcond 6 (by omega)
      obtain ⟨c70, c71, c72, c73⟩ := hcond 7 (by omega)
      simp only [c00, c01, c02, c03, c10, c11, c12, c13, c20, c21, c22, c23, c30, c31, c32, c33, c40, c41, c42, c43, c50, c51, c52, c53, c60, c61, c62, c63, c70, c71, c72, c73, Bool.and_true, cond_true, hcut 0 (by omega), hcut 1 (by omega), hcut 2 (by omega), hcut 3 (by omega), hcut 4 (by omega), hcut 5 (by omega), hcut 6 (by omega), hcut 7 (by omega)]
      rfl
def m_both : List AV → Sto → Option (Bool × AV × Upd × Nat)
  | [.agg [.int .i64 n, .int .i64 m, .sl 0 1 0 k]], [(0, .fix (.ints .i64 l))] => some (M.okTb n m k, .sl 2 1 0 m.toNat, [(2, .ro (.cells (M.tbl n m.toNat))), (1, .fix (.cells [.int .i64 n, .int .i64 m, .sl 0 1 0 k])), (0, .fix (.ints .i64 l))], 3)
  | [.agg [.int .i64 n, .int .i64 m, .vi .i64 l]], [] => some (M.okRw n m l, .vr .i64 (M.rowsL n m l), [], 0)
  | _, _ => none
noncomputable def q1 : Cfg := p4.add 34 (fun _ => none)
theorem q1_ok : CfgOK q1 := add_ok p4_ok fun xs v h => by cases h
noncomputable def q2 : Cfg := q1.addR 34 m_both
theorem q2_ok : CfgOK q2 := addR_ok q1_ok fun xs s v u nx h => by
  unfold m_both at h; split at h
  · simp only [Option.some.injEq, Prod.mk.injEq] at h; obtain ⟨h1, rfl, rfl, rfl⟩ := h; exact e_table _ _ _ _ h1
  · simp only [Option.some.injEq, Prod.mk.injEq] at h; obtain ⟨h1, rfl, rfl, rfl⟩ := h; exact r_rows _ _ _ h1
  · cases h

namespace M
def kpr (ra : List (List Int)) (y : List Int) (c : Nat) (i : Nat) : Int := y.getD i 0 * (ra.getD i []).getD c 0
def okCk (ra : List (List Int)) (y : List Int) (q c : Int) : Bool := decide ((y.length : Int) = q) && decide (q ≤ 8) && decide ((ra.length : Int) = q) && y.all inC && ra.all (fun r => r.all inC && decide (c < r.length)) && decide (0 ≤ c)
def okCq (n ka : Int) (a : List Int) (kb m : Int) (b : List Int) (ra rb : List (List Int)) (r : Int) (f w : Nat) (wn : Int) (L : List Int) : Bool :=
  okMulR n ka a kb m b r && decide (ra = rowsL n ka a) && decide (rb = rowsL kb m b) && decide (f = r.toNat * n.toNat) && decide (w = n.toNat) && decide (wn = n) && decide ((L.length : Int) = n * m)
def putR (n : Int) (a : List Int) (kb : Int) (b : List Int) (r j : Nat) (L : List Int) : List Int := L.take (r * n.toNat) ++ mulF n a kb b r j ++ L.drop (r * n.toNat + j)
end M
theorem okCk_iff {ra : List (List Int)} {y : List Int} {q c : Int} (h : M.okCk ra y q c = true) : (y.length : Int) = q ∧ q ≤ 8 ∧ (ra.length : Int) = q ∧ y.all M.inC = true ∧ 0 ≤ c ∧ ∀ i, i < ra.length → (ra.getD i []).all M.inC = true ∧ c < (ra.getD i []).length := by
  unfold M.okCk at h
  simp only [Bool.and_eq_true, decide_eq_true_eq] at h
  obtain ⟨⟨⟨⟨⟨h1, h2⟩, h3⟩, h4⟩, h5⟩, h6⟩ := h
  refine ⟨h1, h2, h3, h4, h6, fun i hi => ?_⟩
  rw [List.all_eq_true] at h5
  have := h5 (ra.getD i []) (by rw [List.getD_eq_getElem?_getD, List.getElem?_eq_getElem hi]; exact List.getElem_mem hi)
  simpa only [Bool.and_eq_true, decide_eq_true_eq] using this
theorem kpr_bound {ra : List (List Int)} {y : List Int} {q c : Int} (h : M.okCk ra y q c = true) {i : Nat} (hi : (i : Int) < q) : -17179869184 ≤ M.kpr ra y c.toNat i ∧ M.kpr ra y c.toNat i ≤ 17179869184 := by
  obtain ⟨h1, h2, h3, h4, h5, h6⟩ := okCk_iff h
  obtain ⟨g1, g2⟩ := h6 i (by omega)
  obtain ⟨x1, x2⟩ := inC_iff (all_getD h4 (i := i) (by omega))
  obtain ⟨y1, y2⟩ := inC_iff (all_getD g1 (i := c.toNat) (by omega))
  exact prod_bound (A := 131072) (B := 131072) x1 x2 y1 y2
theorem kdot_small {ra : List (List Int)} {y : List Int} {q c : Int} (h : M.okCk ra y q c = true) {i : Nat} (hi : (i : Int) ≤ q) : -137438953472 ≤ M.dotZ i (M.kpr ra y c.toNat) ∧ M.dotZ i (M.kpr ra y c.toNat) ≤ 137438953472 := by
  have := dotZ_bound (B := 17179869184) (f := M.kpr ra y c.toNat) i fun j hj => kpr_bound h (by omega)
  have := (okCk_iff h).2.1
  omega
theorem k_next {ra : List (List Int)} {y : List Int} {q c : Int} (h : M.okCk ra y q c = true) (i : Nat) (hi : (i : Int) < q) :
    M.w64 (M.dotZ i (M.kpr ra y c.toNat) + M.w64 (y.getD i 0 * (ra.getD i []).getD c.toNat 0)) = M.dotZ (i + 1) (M.kpr ra y c.toNat) := by
  have b1 := kdot_small h (i := i) (by omega)
  have b2 := kpr_bound h hi
  show M.w64 (_ + M.w64 (M.kpr ra y c.toNat i)) = _
  rw [w64_in (n := M.kpr ra y c.toNat i) (by omega) (by omega), w64_in (by omega) (by omega)]
  rfl

def gC1 (ra rb : List (List Int)) (r : Int) (f w : Nat) (jj rr : Int) (fz wz : Nat) (wn c : Int) (o0 w0 : Nat) (L : List Int) (n5 m5 : Int) (k5 : Nat) (kb m : Int) (b : List Int) (n ka : Int) (a : List Int) : St := ⟨[(2, .ptr 0 0 3), (3, .ptr 1 0 3), (4, .ptr 2 0 3), (5, .int .i64 0), (6, .ptr 5 0 3), (7, .vr .i64 ra), (8, .vr .i64 rb), (9, .int .i64 r), (10, .sl 4 1 f w), (40, .sl 7 1 0 1), (41, .int .i64 jj), (42, .int .i64 rr), (47, .sl 4 1 fz wz), (48, .int .i64 wn), (49, .int .i64 c)], [(7, .ro (.cells [.sl 4 1 o0 w0])), (4, .fix (.ints .i64 L)), (5, .fix (.cells [.int .i64 n5, .int .i64 m5, .sl 4 1 0 k5])), (2, .fix (.cells [.int .i64 0, .int .i64 0, .nilsl])), (1, .fix (.cells [.int .i64 kb, .int .i64 m, .vi .i64 b])), (0, .fix (.cells [.int .i64 n, .int .i64 ka, .vi .i64 a]))], 8⟩
def gK1 (ra rb : List (List Int)) (r : Int) (f w : Nat) (jj rr : Int) (fz wz : Nat) (wn c : Int) (o0 w0 : Nat) (L : List Int) (n5 m5 : Int) (k5 : Nat) (kb m : Int) (b : List Int) (n ka : Int) (a : List Int) (d s : Int) (y : List Int) (q i : Int) : St := ⟨[(2, .ptr 0 0 3), (3, .ptr 1 0 3), (4, .ptr 2 0 3), (5, .int .i64 0), (6, .ptr 5 0 3), (7, .vr .i64 ra), (8, .vr .i64 rb), (9, .int .i64 r), (10, .sl 4 1 f w), (11, .int .i64 d), (12, .int .i64 s), (40, .sl 7 1 0 1), (41, .int .i64 jj), (42, .int .i64 rr), (47, .sl 4 1 fz wz), (48, .int .i64 wn), (49, .int .i64 c), (55, .vi .i64 y), (56, .int .i64 q), (57, .int .i64 i)], [(7, .ro (.cells [.sl 4 1 o0 w0])), (4, .fix (.ints .i64 L)), (5, .fix (.cells [.int .i64 n5, .int .i64 m5, .sl 4 1 0 k5])), (2, .fix (.cells [.int .i64 0, .int .i64 0, .nilsl])), (1, .fix (.cells [.int .i64 kb, .int .i64 m, .vi .i64 b])), (0, .fix (.cells [.int .i64 n, .int .i64 ka, .vi .i64 a]))], 8⟩
theorem gK1_step {R : Type} (ra rb : List (List Int)) (r : Int) (f w : Nat) (jj rr : Int) (fz wz : Nat) (wn c : Int) (o0 w0 : Nat) (L : List Int) (n5 m5 : Int) (k5 : Nat) (kb m : Int) (b : List Int) (n ka : Int) (a : List Int) (d s : Int) (y : List Int) (q i : Int) (K : Kont R) : execK q2 30 0 (ntAt q2.P 30) noCall 0 none (bodyAt q2.P 30 4) (gK1 ra rb r f w jj rr fz wz wn c o0 w0 L n5 m5 k5 kb m b n ka a d s y q i) (kRes 0 (keep 30 4) K) =
    (bif decide (i < q) then (bif decide (0 ≤ i) && decide (i < y.length) && true then (bif decide (0 ≤ i) && decide (i < ra.length) && true then (bif decide (0 ≤ d) && decide (d < (ra.getD i.toNat []).length) && true then K .normal (gK1 ra rb r f w jj rr fz wz wn c o0 w0 L n5 m5 k5 kb m b n ka a d (M.w64 (s + M.w64 (y.getD i.toNat 0 * (ra.getD i.toNat []).getD d.toNat 0))) y q (M.w64 (i + 1))) else none) else none) else none) else K (.exit 4) (gK1 ra rb r f w jj rr fz wz wn c o0 w0 L n5 m5 k5 kb m b n ka a d s y q i)) := by kernel_rfl
def gC2 (ra rb : List (List Int)) (r : Int) (f w : Nat) (jj rr : Int) (fz wz : Nat) (wn c : Int) (o0 w0 o1 w1 : Nat) (L : List Int) (n5 m5 : Int) (k5 : Nat) (kb m : Int) (b : List Int) (n ka : Int) (a : List Int) : St := ⟨[(2, .ptr 0 0 3), (3, .ptr 1 0 3), (4, .ptr 2 0 3), (5, .int .i64 0), (6, .ptr 5 0 3), (7, .vr .i64 ra), (8, .vr .i64 rb), (9, .int .i64 r), (10, .sl 4 1 f w), (40, .sl 7 1 0 2), (41, .int .i64 jj), (42, .int .i64 rr), (47, .sl 4 1 fz wz), (48, .int .i64 wn), (49, .int .i64 c)], [(7, .ro (.cells [.sl 4 1 o0 w0, .sl 4 1 o1 w1])), (4, .fix (.ints .i64 L)), (5, .fix (.cells [.int .i64 n5, .int .i64 m5, .sl 4 1 0 k5])), (2, .fix (.cells [.int .i64 0, .int .i64 0, .nilsl])), (1, .fix (.cells [.int .i64 kb, .int .i64 m, .vi .i64 b])), (0, .fix (.cells [.int .i64 n, .int .i64 ka, .vi .i64 a]))], 8⟩
def gK2 (ra rb : List (List Int)) (r : Int) (f w : Nat) (jj rr : Int) (fz wz : Nat) (wn c : Int) (o0 w0 o1 w1 : Nat) (L : List Int) (n5 m5 : Int) (k5 : Nat) (kb m : Int) (b : List Int) (n ka : Int) (a : List Int) (d s : Int) (y : List Int) (q i : Int) : St := ⟨[(2, .ptr 0 0 3), (3, .ptr 1 0 3), (4, .ptr 2 0 3), (5, .int .i64 0), (6, .ptr 5 0 3), (7, .vr .i64 ra), (8, .vr .i64 rb), (9, .int .i64 r), (10, .sl 4 1 f w), (11, .int .i64 d), (12, .int .i64 s), (40, .sl 7 1 0 2), (41, .int .i64 jj), (42, .int .i64 rr), (47, .sl 4 1 fz wz), (48, .int .i64 wn), (49, .int .i64 c), (55, .vi .i64 y), (56, .int .i64 q), (57, .int .i64 i)], [(7, .ro (.cells [.sl 4 1 o0 w0, .sl 4 1 o1 w1])), (4, .fix (.ints .i64 L)), (5, .fix (.cells [.int .i64 n5, .int .i64 m5, .sl 4 1 0 k5])), (2, .fix (.cells [.int .i64 0, .int .i64 0, .nilsl])), (1, .fix (.cells [.int .i64 kb, .int .i64 m, .vi .i64 b])), (0, .fix (.cells [.int .i64 n, .int .i64 ka, .vi .i64 a]))], 8⟩
theorem gK2_step {R : Type} (ra rb : List (List Int)) (r : Int) (f w : Nat) (jj rr : Int) (fz wz : Nat) (wn c : Int) (o0 w0 o1 w1 : Nat) (L : List Int) (n5 m5 : Int) (k5 : Nat) (kb m : Int) (b : List Int) (n ka : Int) (a : List Int) (d s : Int) (y : List Int) (q i : Int) (K : Kont R) : execK q2 30 0 (ntAt q2.P 30) noCall 0 none (bodyAt q2.P 30 4) (gK2 ra rb r f w jj rr fz wz wn c o0 w0 o1 w1 L n5 m5 k5 kb m b n ka a d s y q i) (kRes 0 (keep 30 4) K) =
    (bif decide (i < q) then (bif decide (0 ≤ i) && decide (i < y.length) && true then (bif decide (0 ≤ i) && decide (i < ra.length) && true then (bif decide (0 ≤ d) && decide (d < (ra.getD i.toNat []).length) && true then K .normal (gK2 ra rb r f w jj rr fz wz wn c o0 w0 o1 w1 L n5 m5 k5 kb m b n ka a d (M.w64 (s + M.w64 (y.getD i.toNat 0 * (ra.getD i.toNat []).getD d.toNat 0))) y q (M.w64 (i + 1))) else none) else none) else none) else K (.exit 4) (gK2 ra rb r f w jj rr fz wz wn c o0 w0 o1 w1 L n5 m5 k5 kb m b n ka a d s y q i)) := by kernel_rfl
def gC3 (ra rb : List (List Int)) (r : Int) (f w : Nat) (jj rr : Int) (fz wz : Nat) (wn c : Int) (o0 w0 o1 w1 o2 w2 : Nat) (L : List Int) (n5 m5 : Int) (k5 : Nat) (kb m : Int) (b : List Int) (n ka : Int) (a : List Int) : St := ⟨[(2, .ptr 0 0 3), (3, .ptr 1 0 3), (4, .ptr 2 0 3), (5, .int .i64 0), (6, .ptr 5 0 3), (7, .vr .i64 ra), (8, .vr .i64 rb), (9, .int .i64 r), (10, .sl 4 1 f w), (40, .sl 7 1 0 3), (41, .int .i64 jj), (42, .int .i64 rr), (47, .sl 4 1 fz wz), (48, .int .i64 wn), (49, .int .i64 c)], [(7, .ro (.cells [.sl 4 1 o0 w0, .sl 4 1 o1 w1, .sl 4 1 o2 w2])), (4, .fix (.ints .i64 L)), (5, .fix (.cells [.int .i64 n5, .int .i64 m5, .sl 4 1 0 k5])), (2, .fix (.cells [.int .i64 0, .int .i64 0, .nilsl])), (1, .fix (.cells [.int .i64 kb, .int .i64 m, .vi .i64 b])), (0, .fix (.cells [.int .i64 n, .int .i64 ka, .vi .i64 a]))], 8⟩
def gK3 (ra rb : List (List Int)) (r : Int) (f w : Nat) (jj rr : Int) (fz wz : Nat) (wn c : Int) (o0 w0 o1 w1 o2 w2 : Nat) (L : List Int) (n5 m5 : Int) (k5 : Nat) (kb m : Int) (b : List Int) (n ka : Int) (a : List Int) (d s : Int) (y : List Int) (q i : Int) : St := ⟨[(2, .ptr 0 0 3), (3, .ptr 1 0 3), (4, .ptr 2 0 3), (5, .int .i64 0), (6, .ptr 5 0 3), (7, .vr .i64 ra), (8, .vr .i64 rb), (9, .int .i64 r), (10, .sl 4 1 f w), (11, .int .i64 d), (12, .int .i64 s), (40, .sl 7 1 0 3), (41, .int .i64 jj), (42, .int .i64 rr), (47, .sl 4 1 fz wz), (48, .int .i64 wn), (49, .int .i64 c), (55, .vi .i64 y), (56, .int .i64 q), (57, .int .i64 i)], [(7, .ro (.cells [.sl 4 1 o0 w0, .sl 4 1 o1 w1, .sl 4 1 o2 w2])), (4, .fix (.ints .i64 L)), (5, .fix (.cells [.int .i64 n5, .int .i64 m5, .sl 4 1 0 k5])), (2, .fix (.cells [.int .i64 0, .int .i64 0, .nilsl])), (1, .fix (.cells [.int .i64 kb, .int .i64 m, .vi .i64 b])), (0, .fix (.cells [.int .i64 n, .int .i64 ka, .vi .i64 a]))], 8⟩
theorem gK3_step {R : Type} (ra rb : List (List Int)) (r : Int) (f w : Nat) (jj rr : Int) (fz wz : Nat) (wn c : Int) (o0 w0 o1 w1 o2 w2 : Nat) (L : List Int) (n5 m5 : Int) (k5 : Nat) (kb m : Int) (b : List Int) (n ka : Int) (a : List Int) (d s : Int) (y : List Int) (q i : Int) (K : Kont R) : execK q2 30 0 (ntAt q2.P 30) noCall 0 none (bodyAt q2.P 30 4) (gK3 ra rb r f w jj rr fz wz wn c o0 w0 o1 w1 o2 w2 L n5 m5 k5 kb m b n ka a d s y q i) (kRes 0 (keep 30 4) K) =
    (bif decide (i < q) then (bif decide (0 ≤ i) && decide (i < y.length) && true then (bif decide (0 ≤ i) && decide (i < ra.length) && true then (bif decide (0 ≤ d) && decide (d < (ra.getD i.toNat []).length) && true then K .normal (gK3 ra rb r f w jj rr fz wz wn c o0 w0 o1 w1 o2 w2 L n5 m5 k5 kb m b n ka a d (M.w64 (s + M.w64 (y.getD i.toNat 0 * (ra.getD i.toNat []).getD d.toNat 0))) y q (M.w64 (i + 1))) else none) else none) else none) else K (.exit 4) (gK3 ra rb r f w jj rr fz wz wn c o0 w0 o1 w1 o2 w2 L n5 m5 k5 kb m b n ka a d s y q i)) := by kernel_rfl
def gC4 (ra rb : List (List Int)) (r : Int) (f w : Nat) (jj rr : Int) (fz wz : Nat) (wn c : Int) (o0 w0 o1 w1 o2 w2 o3 w3 : Nat) (L : List Int) (n5 m5 : Int) (k5 : Nat) (kb m : Int) (b : List Int) (n ka : Int) (a : List Int) : St := ⟨[(2, .ptr 0 0 3), (3, .ptr 1 0 3), (4, .ptr 2 0 3), (5, .int .i64 0), (6, .ptr 5 0 3), (7, .vr .i64 ra), (8, .vr .i64 rb), (9, .int .i64 r), (10, .sl 4 1 f w), (40, .sl 7 1 0 4), (41, .int .i64 jj), (42, .int .i64 rr), (47, .sl 4 1 fz wz), (48, .int .i64 wn), (49, .int .i64 c)], [(7, .ro (.cells [.sl 4 1 o0 w0, .sl 4 1 o1 w1, .sl 4 1 o2 w2, .sl 4 1 o3 w3])), (4, .fix (.ints .i64 L)), (5, .fix (.cells [.int .i64 n5, .int .i64 m5, .sl 4 1 0 k5])), (2, .fix (.cells [.int .i64 0, .int .i64 0, .nilsl])), (1, .fix (.cells [.int .i64 kb, .int .i64 m, .vi .i64 b])), (0, .fix (.cells [.int .i64 n, .int .i64 ka, .vi .i64 a]))], 8⟩
def gK4 (ra rb : List (List Int)) (r : Int) (f w : Nat) (jj rr : Int) (fz wz : Nat) (wn c : Int) (o0 w0 o1 w1 o2 w2 o3 w3 : Nat) (L : List Int) (n5 m5 : Int) (k5 : Nat) (kb m : Int) (b : List Int) (n ka : Int) (a : List Int) (d s : Int) (y : List Int) (q i : Int) : St := ⟨[(2, .ptr 0 0 3), (3, .ptr 1 0 3), (4, .ptr 2 0 3), (5, .int .i64 0), (6, .ptr 5 0 3), (7, .vr .i64 ra), (8, .vr .i64 rb), (9, .int .i64 r), (10, .sl 4 1 f w), (11, .int .i64 d), (12, .int .i64 s), (40, .sl 7 1 0 4), (41, .int .i64 jj), (42, .int .i64 rr), (47, .sl 4 1 fz wz), (48, .int .i64 wn), (49, .int .i64 c), (55, .vi .i64 y), (56, .int .i64 q), (57, .int .i64 i)], [(7, .ro (.cells [.sl 4 1 o0 w0, .sl 4 1 o1 w1, .sl 4 1 o2 w2, .sl 4 1 o3 w3])), (4, .fix (.ints .i64 L)), (5, .fix (.cells [.int .i64 n5, .int .i64 m5, .sl 4 1 0 k5])), (2, .fix (.cells [.int .i64 0, .int .i64 0, .nilsl])), (1, .fix (.cells [.int .i64 kb, .int .i64 m, .vi .i64 b])), (0, .fix (.cells [.int .i64 n, .int .i64 ka, .vi .i64 a]))], 8⟩
theorem gK4_step {R : Type} (ra rb : List (List Int)) (r : Int) (f w : Nat) (jj rr : Int) (fz wz : Nat) (wn c : Int) (o0 w0 o1 w1 o2 w2 o3 w3 : Nat) (L : List Int) (n5 m5 : Int) (k5 : Nat) (kb m : Int) (b : List Int) (n ka : Int) (a : List Int) (d s : Int) (y : List Int) (q i : Int) (K : Kont R) : execK q2 30 0 (ntAt q2.P 30) noCall 0 none (bodyAt q2.P 30 4) (gK4 ra rb r f w jj rr fz wz wn c o0 w0 o1 w1 o2 w2 o3 w3 L n5 m5 k5 kb m b n ka a d s y q i) (kRes 0 (keep 30 4) K) =
    (bif decide (i < q) then (bif decide (0 ≤ i) && decide (i < y.length) && true then (bif decide (0 ≤ i) && decide (i < ra.length) && true then (bif decide (0 ≤ d) && decide (d < (ra.getD i.toNat []).length) && true then K .normal (gK4 ra rb r f w jj rr fz wz wn c o0 w0 o1 w1 o2 w2 o3 w3 L n5 m5 k5 kb m b n ka a d (M.w64 (s + M.w64 (y.getD i.toNat 0 * (ra.getD i.toNat []).getD d.toNat 0))) y q (M.w64 (i + 1))) else none) else none) else none) else K (.exit 4) (gK4 ra rb r f w jj rr fz wz wn c o0 w0 o1 w1 o2 w2 o3 w3 L n5 m5 k5 kb m b n ka a d s y q i)) := by kernel_rfl
def gC5 (ra rb : List (List Int)) (r : Int) (f w : Nat) (jj rr : Int) (fz wz : Nat) (wn c : Int) (o0 w0 o1 w1 o2 w2 o3 w3 o4 w4 : Nat) (L : List Int) (n5 m5 : Int) (k5 : Nat) (kb m : Int) (b : List Int) (n ka : Int) (a : List Int) : St := ⟨[(2, .ptr 0 0 3), (3, .ptr 1 0 3), (4, .ptr 2 0 3), (5, .int .i64 0), (6, .ptr 5 0 3), (7, .vr .i64 ra), (8, .vr .i64 rb), (9, .int .i64 r), (10, .sl 4 1 f w), (40, .sl 7 1 0 5), (41, .int .i64 jj), (42, .int .i64 rr), (47, .sl 4 1 fz wz), (48, .int .i64 wn), (49, .int .i64 c)], [(7, .ro (.cells [.sl 4 1 o0 w0, .sl 4 1 o1 w1, .sl 4 1 o2 w2, .sl 4 1 o3 w3, .sl 4 1 o4 w4])), (4, .fix (.ints .i64 L)), (5, .fix (.cells [.int .i64 n5, .int .i64 m5, .sl 4 1 0 k5])), (2, .fix (.cells [.int .i64 0, .int .i64 0, .nilsl])), (1, .fix (.cells [.int .i64 kb, .int .i64 m, .vi .i64 b])), (0, .fix (.cells [.int .i64 n, .int .i64 ka, .vi .i64 a]))], 8⟩
def gK5 (ra rb : List (List Int)) (r : Int) (f w : Nat) (jj rr : Int) (fz wz : Nat) (wn c : Int) (o0 w0 o1 w1 o2 w2 o3 w3 o4 w4 : Nat) (L : List Int) (n5 m5 : Int) (k5 : Nat) (kb m : Int) (b : List Int) (n ka : Int) (a : List Int) (d s : Int) (y : List Int) (q i : Int) : St := ⟨[(2, .ptr 0 0 3), (3, .ptr 1 0 3), (4, .ptr 2 0 3), (5, .int .i64 0), (6, .ptr 5 0 3), (7, .vr .i64 ra), (8, .vr .i64 rb), (9, .int .i64 r), (10, .sl 4 1 f w), (11, .int .i64 d), (12, .int .i64 s), (40, .sl 7 1 0 5), (41, .int .i64 jj), (42, .int .i64 rr), (47, .sl 4 1 fz wz), (48, .int .i64 wn), (49, .int .i64 c), (55, .vi .i64 y), (56, .int .i64 q), (57, .int .i64 i)], [(7, .ro (.cells [.sl 4 1 o0 w0, .sl 4 1 o1 w1, .sl 4 1 o2 w2, .sl 4 1 o3 w3, .sl 4 1 o4 w4])), (4, .fix (.ints .i64 L)), (5, .fix (.cells [.int .i64 n5, .int .i64 m5, .sl 4 1 0 k5])), (2, .fix (.cells [.int .i64 0, .int .i64 0, .nilsl])), (1, .fix (.cells [.int .i64 kb, .int .i64 m, .vi .i64 b])), (0, .fix (.cells [.int .i64 n, .int .i64 ka, .vi .i64 a]))], 8⟩
theorem gK5_step {R : Type} (ra rb : List (List Int)) (r : Int) (f w : Nat) (jj rr : Int) (fz wz : Nat) (wn c : Int) (o0 w0 o1 w1 o2 w2 o3 w3 o4 w4 : Nat) (L : List Int) (n5 m5 : Int) (k5 : Nat) (kb m : Int) (b : List Int) (n ka : Int) (a : List Int) (d s : Int) (y : List Int) (q i : Int) (K : Kont R) : execK q2 30 0 (ntAt q2.P 30) noCall 0 none (bodyAt q2.P 30 4) (gK5 ra rb r f w jj rr fz wz wn c o0 w0 o1 w1 o2 w2 o3 w3 o4 w4 L n5 m5 k5 kb m b n ka a d s y q i) (kRes 0 (keep 30 4) K) =
    (bif decide (i < q) then (bif decide (0 ≤ i) && decide (i < y.length) && true then (bif decide (0 ≤ i) && decide (i < ra.length) && true then (bif decide (0 ≤ d) && decide (d < (ra.getD i.toNat []).length) && true then K .normal (gK5 ra rb r f w jj rr fz wz wn c o0 w0 o1 w1 o2 w2 o3 w3 o4 w4 L n5 m5 k5 kb m b n ka a d (M.w64 (s + M.w64 (y.getD i.toNat 0 * (ra.getD i.toNat []).getD d.toNat 0))) y q (M.w64 (i + 1))) else none) else none) else none) else K (.exit 4) (gK5 ra rb r f w jj rr fz wz wn c o0 w0 o1 w1 o2 w2 o3 w3 o4 w4 L n5 m5 k5 kb m b n ka a d s y q i)) := by kernel_rfl
def gC6 (ra rb : List (List Int)) (r : Int) (f w : Nat) (jj rr : Int) (fz wz : Nat) (wn c : Int) (o0 w0 o1 w1 o2 w2 o3 w3 o4 w4 o5 w5 : Nat) (L : List Int) (n5 m5 : Int) (k5 : Nat) (kb m : Int) (b : List Int) (n ka : Int) (a : List Int) : St := ⟨[(2, .ptr 0 0 3), (3, .ptr 1 0 3), (4, .ptr 2 0 3), (5, .int .i64 0), (6, .ptr 5 0 3), (7, .vr .i64 ra), (8, .vr .i64 rb), (9, .int .i64 r), (10, .sl 4 1 f w), (40, .sl 7 1 0 6), (41, .int .i64 jj), (42, .int .i64 rr), (47, .sl 4 1 fz wz), (48, .int .i64 wn), (49, .int .i64 c)], [(7, .ro (.cells [.sl 4 1 o0 w0, .sl 4 1 o1 w1, .sl 4 1 o2 w2, .sl 4 1 o3 w3, .sl 4 1 o4 w4, .sl 4 1 o5 w5])), (4, .fix (.ints .i64 L)), (5, .fix (.cells [.int .i64 n5, .int .i64 m5, .sl 4 1 0 k5])), (2, .fix (.cells [.int .i64 0, .int .i64 0, .nilsl])), (1, .fix (.cells [.int .i64 kb, .int .i64 m, .vi .i64 b])), (0, .fix (.cells [.int .i64 n, .int .i64 ka, .vi .i64 a]))], 8⟩
def gK6 (ra rb : List (List Int)) (r : Int) (f w : Nat) (jj rr : Int) (fz wz : Nat) (wn c : Int) (o0 w0 o1 w1 o2 w2 o3 w3 o4 w4 o5 w5 : Nat) (L : List Int) (n5 m5 : Int) (k5 : Nat) (kb m : Int) (b : List Int) (n ka : Int) (a : List Int) (d s : Int) (y : List Int) (q i : Int) : St := ⟨[(2, .ptr 0 0 3), (3, .ptr 1 0 3), (4, .ptr 2 0 3), (5, .int .i64 0), (6, .ptr 5 0 3), (7, .vr .i64 ra), (8, .vr .i64 rb), (9, .int .i64 r), (10, .sl 4 1 f w), (11, .int .i64 d), (12, .int .i64 s), (40, .sl 7 1 0 6), (41, .int .i64 jj), (42, .int .i64 rr), (47, .sl 4 1 fz wz), (48, .int .i64 wn), (49, .int .i64 c), (55, .vi .i64 y), (56, .int .i64 q), (57, .int .i64 i)], [(7, .ro (.cells [.sl 4 1 o0 w0, .sl 4 1 o1 w1, .sl 4 1 o2 w2, .sl 4 1 o3 w3, .sl 4 1 o4 w4, .sl 4 1 o5 w5])), (4, .fix (.ints .i64 L)), (5, .fix (.cells [.int .i64 n5, .int .i64 m5, .sl 4 1 0 k5])), (2, .fix (.cells [.int .i64 0, .int .i64 0, .nilsl])), (1, .fix (.cells [.int .i64 kb, .int .i64 m, .vi .i64 b])), (0, .fix (.cells [.int .i64 n, .int .i64 ka, .vi .i64 a]))], 8⟩
theorem gK6_step {R : Type} (ra rb : List (List Int)) (r : Int) (f w : Nat) (jj rr : Int) (fz wz : Nat) (wn c : Int) (o0 w0 o1 w1 o2 w2 o3 w3 o4 w4 o5 w5 : Nat) (L : List Int) (n5 m5 : Int) (k5 : Nat) (kb m : Int) (b : List Int) (n ka : Int) (a : List Int) (d s : Int) (y : List Int) (q i : Int) (K : Kont R) : execK q2 30 0 (ntAt q2.P 30) noCall 0 none (bodyAt q2.P 30 4) (gK6 ra rb r f w jj rr fz wz wn c o0 w0 o1 w1 o2 w2 o3 w3 o4 w4 o5 w5 L n5 m5 k5 kb m b n ka a d s y q i) (kRes 0 (keep 30 4) K) =
    (bif decide (i < q) then (bif decide (0 ≤ i) && decide (i < y.length) && true then (bif decide (0 ≤ i) && decide (i < ra.length) && true then (bif decide (0 ≤ d) && decide (d < (ra.getD i.toNat []).length) && true then K .normal (gK6 ra rb r f w jj rr fz wz wn c o0 w0 o1 w1 o2 w2 o3 w3 o4 w4 o5 w5 L n5 m5 k5 kb m b n ka a d (M.w64 (s + M.w64 (y.getD i.toNat 0 * (ra.getD i.toNat []).getD d.toNat 0))) y q (M.w64 (i + 1))) else none) else none) else none) else K (.exit 4) (gK6 ra rb r f w jj rr fz wz wn c o0 w0 o1 w1 o2 w2 o3 w3 o4 w4 o5 w5 L n5 m5 k5 kb m b n ka a d s y q i)) := by kernel_rfl
def gC7 (ra rb : List (List Int)) (r : Int) (f w : Nat) (jj rr : Int) (fz wz : Nat) (wn c : Int) (o0 w0 o1 w1 o2 w2 o3 w3 o4 w4 o5 w5 o6 w6 : Nat) (L : List Int) (n5 m5 : Int) (k5 : Nat) (kb m : Int) (b : List Int) (n ka : Int) (a : List Int) : St := ⟨[(2, .ptr 0 0 3), (3, .ptr 1 0 3), (4, .ptr 2 0 3), (5, .int .i64 0), (6, .ptr 5 0 3), (7, .vr .i64 ra), (8, .vr .i64 rb), (9, .int .i64 r), (10, .sl 4 1 f w), (40, .sl 7 1 0 7), (41, .int .i64 jj), (42, .int .i64 rr), (47, .sl 4 1 fz wz), (48, .int .i64 wn), (49, .int .i64 c)], [(7, .ro (.cells [.sl 4 1 o0 w0, .sl 4 1 o1 w1, .sl 4 1 o2 w2, .sl 4 1 o3 w3, .sl 4 1 o4 w4, .sl 4 1 o5 w5, .sl 4 1 o6 w6])), (4, .fix (.ints .i64 L)), (5, .fix (.cells [.int .i64 n5, .int .i64 m5, .sl 4 1 0 k5])), (2, .fix (.cells [.int .i64 0, .int .i64 0, .nilsl])), (1, .fix (.cells [.int .i64 kb, .int .i64 m, .vi .i64 b])), (0, .fix (.cells [.int .i64 n, .int .i64 ka, .vi .i64 a]))], 8⟩
def gK7 (ra rb : List (List Int)) (r : Int) (f w : Nat) (jj rr : Int) (fz wz : Nat) (wn c : Int) (o0 w0 o1 w1 o2 w2 o3 w3 o4 w4 o5 w5 o6 w6 : Nat) (L : List Int) (n5 m5 : Int) (k5 : Nat) (kb m : Int) (b : List Int) (n ka : Int) (a : List Int) (d s : Int) (y : List Int) (q i : Int) : St := ⟨[(2, .ptr 0 0 3), (3, .ptr 1 0 3), (4, .ptr 2 0 3), (5, .int .i64 0), (6, .ptr 5 0 3), (7, .vr .i64 ra), (8, .vr .i64 rb), (9, .int .i64 r), (10, .sl 4 1 f w), (11, .int .i64 d), (12, .int .i64 s), (40, .sl 7 1 0 7), (41, .int .i64 jj), (42, .int .i64 rr), (47, .sl 4 1 fz wz), (48, .int .i64 wn), (49, .int .i64 c), (55, .vi .i64 y), (56, .int .i64 q), (57, .int .i64 i)], [(7, .ro (.cells [.sl 4 1 o0 w0, .sl 4 1 o1 w1, .sl 4 1 o2 w2, .sl 4 1 o3 w3, .sl 4 1 o4 w4, .sl 4 1 o5 w5, .sl 4 1 o6 w6])), (4, .fix (.ints .i64 L)), (5, .fix (.cells [.int .i64 n5, .int .i64 m5, .sl 4 1 0 k5])), (2, .fix (.cells [.int .i64 0, .int .i64 0, .nilsl])), (1, .fix (.cells [.int .i64 kb, .int .i64 m, .vi .i64 b])), (0, .fix (.cells [.int .i64 n, .int .i64 ka, .vi .i64 a]))], 8⟩
theorem gK7_step {R : Type} (ra rb : List (List Int)) (r : Int) (f w : Nat) (jj rr : Int) (fz wz : Nat) (wn c : Int) (o0 w0 o1 w1 o2 w2 o3 w3 o4 w4 o5 w5 o6 w6 : Nat) (L : List Int) (n5 m5 : Int) (k5 : Nat) (kb m : Int) (b : List Int) (n ka : Int) (a : List Int) (d s : Int) (y : List Int) (q i : Int) (K : Kont R) : execK q2 30 0 (ntAt q2.P 30) noCall 0 none (bodyAt q2.P 30 4) (gK7 ra rb r f w jj rr fz wz wn c o0 w0 o1 w1 o2 w2 o3 w3 o4 w4 o5 w5 o6 w6 L n5 m5 k5 kb m b n ka a d s y q i) (kRes 0 (keep 30 4) K) =
    (bif decide (i < q) then (bif decide (0 ≤ i) && decide (i < y.length) && true then (bif decide (0 ≤ i) && decide (i < ra.length) && true then (bif decide (0 ≤ d) && decide (d < (ra.getD i.toNat []).length) && true then K .normal (gK7 ra rb r f w jj rr fz wz wn c o0 w0 o1 w1 o2 w2 o3 w3 o4 w4 o5 w5 o6 w6 L n5 m5 k5 kb m b n ka a d (M.w64 (s + M.w64 (y.getD i.toNat 0 * (ra.getD i.toNat []).getD d.toNat 0))) y q (M.w64 (i + 1))) else none) else none) else none) else K (.exit 4) (gK7 ra rb r f w jj rr fz wz wn c o0 w0 o1 w1 o2 w2 o3 w3 o4 w4 o5 w5 o6 w6 L n5 m5 k5 kb m b n ka a d s y q i)) := by kernel_rfl
def gC8 (ra rb : List (List Int)) (r : Int) (f w : Nat) (jj rr : Int) (fz wz : Nat) (wn c : Int) (o0 w0 o1 w1 o2 w2 o3 w3 o4 w4 o5 w5 o6 w6 o7 w7 : Nat) (L : List Int) (n5 m5 : Int) (k5 : Nat) (kb m : Int) (b : List Int) (n ka : Int) (a : List Int) : St := ⟨[(2, .ptr 0 0 3), (3, .ptr 1 0 3), (4, .ptr 2 0 3), (5, .int .i64 0), (6, .ptr 5 0 3), (7, .vr .i64 ra), (8, .vr .i64 rb), (9, .int .i64 r), (10, .sl 4 1 f w), (40, .sl 7 1 0 8), (41, .int .i64 jj), (42, .int .i64 rr), (47, .sl 4 1 fz wz), (48, .int .i64 wn), (49, .int .i64 c)], [(7, .ro (.cells [.sl 4 1 o0 w0, .sl 4 1 o1 w1, .sl 4 1 o2 w2, .sl 4 1 o3 w3, .sl 4 1 o4 w4, .sl 4 1 o5 w5, .sl 4 1 o6 w6, .sl 4 1 o7 w7])), (4, .fix (.ints .i64 L)), (5, .fix (.cells [.int .i64 n5, .int .i64 m5, .sl 4 1 0 k5])), (2, .fix (.cells [.int .i64 0, .int .i64 0, .nilsl])), (1, .fix (.cells [.int .i64 kb, .int .i64 m, .vi .i64 b])), (0, .fix (.cells [.int .i64 n, .int .i64 ka, .vi .i64 a]))], 8⟩
def gK8 (ra rb : List (List Int)) (r : Int) (f w : Nat) (jj rr : Int) (fz wz : Nat) (wn c : Int) (o0 w0 o1 w1 o2 w2 o3 w3 o4 w4 o5 w5 o6 w6 o7 w7 : Nat) (L : List Int) (n5 m5 : Int) (k5 : Nat) (kb m : Int) (b : List Int) (n ka : Int) (a : List Int) (d s : Int) (y : List Int) (q i : Int) : St := ⟨[(2, .ptr 0 0 3), (3, .ptr 1 0 3), (4, .ptr 2 0 3), (5, .int .i64 0), (6, .ptr 5 0 3), (7, .vr .i64 ra), (8, .vr .i64 rb), (9, .int .i64 r), (10, .sl 4 1 f w), (11, .int .i64 d), (12, .int .i64 s), (40, .sl 7 1 0 8), (41, .int .i64 jj), (42, .int .i64 rr), (47, .sl 4 1 fz wz), (48, .int .i64 wn), (49, .int .i64 c), (55, .vi .i64 y), (56, .int .i64 q), (57, .int .i64 i)], [(7, .ro (.cells [.sl 4 1 o0 w0, .sl 4 1 o1 w1, .sl 4 1 o2 w2, .sl 4 1 o3 w3, .sl 4 1 o4 w4, .sl 4 1 o5 w5, .sl 4 1 o6 w6, .sl 4 1 o7 w7])), (4, .fix (.ints .i64 L)), (5, .fix (.cells [.int .i64 n5, .int .i64 m5, .sl 4 1 0 k5])), (2, .fix (.cells [.int .i64 0, .int .i64 0, .nilsl])), (1, .fix (.cells [.int .i64 kb, .int .i64 m, .vi .i64 b])), (0, .fix (.cells [.int .i64 n, .int .i64 ka, .vi .i64 a]))], 8⟩
theorem gK8_step {R : Type} (ra rb : List (List Int)) (r : Int) (f w : Nat) (jj rr : Int) (fz wz : Nat) (wn c : Int) (o0 w0 o1 w1 o2 w2 o3 w3 o4 w4 o5 w5 o6 w6 o7 w7 : Nat) (L : List Int) (n5 m5 : Int) (k5 : Nat) (kb m : Int) (b : List Int) (n ka : Int) (a : List Int) (d s : Int) (y : List Int) (q i : Int) (K : Kont R) : execK q2 30 0 (ntAt q2.P 30) noCall 0 none (bodyAt q2.P 30 4) (gK8 ra rb r f w jj rr fz wz wn c o0 w0 o1 w1 o2 w2 o3 w3 o4 w4 o5 w5 o6 w6 o7 w7 L n5 m5 k5 kb m b n ka a d s y q i) (kRes 0 (keep 30 4) K) =
    (bif decide (i < q) then (bif decide (0 ≤ i) && decide (i < y.length) && true then (bif decide (0 ≤ i) && decide (i < ra.length) && true then (bif decide (0 ≤ d) && decide (d < (ra.getD i.toNat []).length) && true then K .normal (gK8 ra rb r f w jj rr fz wz wn c o0 w0 o1 w1 o2 w2 o3 w3 o4 w4 o5 w5 o6 w6 o7 w7 L n5 m5 k5 kb m b n ka a d (M.w64 (s + M.w64 (y.getD i.toNat 0 * (ra.getD i.toNat []).getD d.toNat 0))) y q (M.w64 (i + 1))) else none) else none) else none) else K (.exit 4) (gK8 ra rb r f w jj rr fz wz wn c o0 w0 o1 w1 o2 w2 o3 w3 o4 w4 o5 w5 o6 w6 o7 w7 L n5 m5 k5 kb m b n ka a d s y q i)) := by kernel_rfl
def l_gK0 : Nat → St → Option (List (Bool × Ex × St))
  | 0, ⟨[(2, .ptr 0 0 3), (3, .ptr 1 0 3), (4, .ptr 2 0 3), (5, .int .i64 0), (6, .ptr 5 0 3), (7, .vr .i64 ra), (8, .vr .i64 rb), (9, .int .i64 r), (10, .sl 4 1 f w), (11, .int .i64 d), (12, .int .i64 0), (40, .sl 7 1 0 1), (41, .int .i64 jj), (42, .int .i64 rr), (47, .sl 4 1 fz wz), (48, .int .i64 wn), (49, .int .i64 c), (55, .vi .i64 y), (56, .int .i64 q), (57, .int .i64 0)], [(7, .ro (.cells [.sl 4 1 o0 w0])), (4, .fix (.ints .i64 L)), (5, .fix (.cells [.int .i64 n5, .int .i64 m5, .sl 4 1 0 k5])), (2, .fix (.cells [.int .i64 0, .int .i64 0, .nilsl])), (1, .fix (.cells [.int .i64 kb, .int .i64 m, .vi .i64 b])), (0, .fix (.cells [.int .i64 n, .int .i64 ka, .vi .i64 a]))], 8⟩ => some [(M.okCk ra y q d, .exit 4, gK1 ra rb r f w jj rr fz wz wn c o0 w0 L n5 m5 k5 kb m b n ka a d (M.dotZ q.toNat (M.kpr ra y d.toNat)) y q q)]
  | lo, st => none
theorem h_gK0 : ∀ lo st alts ex st', l_gK0 lo st = some alts → pickL alts = some (ex, st') → LoopEq q2 30 4 lo st ex st' := by
  intro lo st alts ex st' h hp
  unfold l_gK0 at h
  split at h
  · simp only [Option.some.injEq] at h
    subst h
    rename_i ra rb r f w d jj rr fz wz wn c y q o0 w0 L n5 m5 k5 kb m b n ka a
    cases hk : M.okCk ra y q d with
    | false => rw [hk] at hp; cases hp
    | true =>
      rw [hk] at hp
      cases hp
      obtain ⟨h1, h2, h3, h4, h5, h6⟩ := okCk_iff hk
      refine loop_known (m := 0) (kp := keep 30 4) q2_ok noCall_ok ?_
      have main := loop_rule (lo := 0) (kp := keep 30 4) (b := execK q2 30 0 (ntAt q2.P 30) noCall 0 none (bodyAt q2.P 30 4)) (K := fun ex st => some (ex, st)) (fun i => gK1 ra rb r f w jj rr fz wz wn c o0 w0 L n5 m5 k5 kb m b n ka a d (M.dotZ i (M.kpr ra y d.toNat)) y q i) (fun i => i ≤ q.toNat) (fun i => q.toNat - i) (fun _ => (.exit 4, gK1 ra rb r f w jj rr fz wz wn c o0 w0 L n5 m5 k5 kb m b n ka a d (M.dotZ q.toNat (M.kpr ra y d.toNat)) y q q.toNat)) (fun i hi => ?_) 0 (Nat.zero_le _)
      · rw [show (q.toNat : Int) = q by omega] at main; exact main
      by_cases hlt : i < q.toNat
      · refine .inl ⟨i + 1, hlt, by omega, rfl, fun K' => ?_⟩
        rw [gK1_step, decide_eq_true (by omega : (i : Int) < q), decide_eq_true (by omega : (0 : Int) ≤ i), decide_eq_true (by omega : (i : Int) < y.length), decide_eq_true (by omega : (i : Int) < ra.length), decide_eq_true h5, Int.toNat_natCast, decide_eq_true (h6 i (by omega)).2, k_next hk i (by omega), w64_in (n := (i : Int) + 1) (by omega) (by omega)]
        rfl
      · have : i = q.toNat := by omega
        subst this
        refine .inr ⟨⟨4, .inl rfl⟩, fun K' => ?_⟩
        rw [gK1_step, decide_eq_false (by omega : ¬ (q.toNat : Int) < q)]
        rfl
  · cases h
def l_gK1 : Nat → St → Option (List (Bool × Ex × St))
  | 0, ⟨[(2, .ptr 0 0 3), (3, .ptr 1 0 3), (4, .ptr 2 0 3), (5, .int .i64 0), (6, .ptr 5 0 3), (7, .vr .i64 ra), (8, .vr .i64 rb), (9, .int .i64 r), (10, .sl 4 1 f w), (11, .int .i64 d), (12, .int .i64 0), (40, .sl 7 1 0 2), (41, .int .i64 jj), (42, .int .i64 rr), (47, .sl 4 1 fz wz), (48, .int .i64 wn), (49, .int .i64 c), (55, .vi .i64 y), (56, .int .i64 q), (57, .int .i64 0)], [(7, .ro (.cells [.sl 4 1 o0 w0, .sl 4 1 o1 w1])), (4, .fix (.ints .i64 L)), (5, .fix (.cells [.int .i64 n5, .int .i64 m5, .sl 4 1 0 k5])), (2, .fix (.cells [.int .i64 0, .int .i64 0, .nilsl])), (1, .fix (.cells [.int .i64 kb, .int .i64 m, .vi .i64 b])), (0, .fix (.cells [.int .i64 n, .int .i64 ka, .vi .i64 a]))], 8⟩ => some [(M.okCk ra y q d, .exit 4, gK2 ra rb r f w jj rr fz wz wn c o0 w0 o1 w1 L n5 m5 k5 kb m b n ka a d (M.dotZ q.toNat (M.kpr ra y d.toNat)) y q q)]
  | lo, st => l_gK0 lo st
theorem h_gK1 : ∀ lo st alts ex st', l_gK1 lo st = some alts → pickL alts = some (ex, st') → LoopEq q2 30 4 lo st ex st' := by
  intro lo st alts ex st' h hp
  unfold l_gK1 at h
  split at h
  · simp only [Option.some.injEq] at h
    subst h
    rename_i ra rb r f w d jj rr fz wz wn c y q o0 w0 o1 w1 L n5 m5 k5 kb m b n ka a
    cases hk : M.okCk ra y q d with
    | false => rw [hk] at hp; cases hp
    | true =>
      rw [hk] at hp
      cases hp
      obtain ⟨h1, h2, h3, h4, h5, h6⟩ := okCk_iff hk
      refine loop_known (m := 0) (kp := keep 30 4) q2_ok noCall_ok ?_
      have main := loop_rule (lo := 0) (kp := keep 30 4) (b := execK q2 30 0 (ntAt q2.P 30) noCall 0 none (bodyAt q2.P 30 4)) (K := fun ex st => some (ex, st)) (fun i => gK2 ra rb r f w jj rr fz wz wn c o0 w0 o1 w1 L n5 m5 k5 kb m b n ka a d (M.dotZ i (M.kpr ra y d.toNat)) y q i) (fun i => i ≤ q.toNat) (fun i => q.toNat - i) (fun _ => (.exit 4, gK2 ra rb r f w jj rr fz wz wn c o0 w0 o1 w1 L n5 m5 k5 kb m b n ka a d (M.dotZ q.toNat (M.kpr ra y d.toNat)) y q q.toNat)) (fun i hi => ?_) 0 (Nat.zero_le _)
      · rw [show (q.toNat : Int) = q by omega] at main; exact main
      by_cases hlt : i < q.toNat
      · refine .inl ⟨i + 1, hlt, by omega, rfl, fun K' => ?_⟩
        rw [gK2_step, decide_eq_true (by omega : (i : Int) < q), decide_eq_true (by omega : (0 : Int) ≤ i), decide_eq_true (by omega : (i : Int) < y.length), decide_eq_true (by omega : (i : Int) < ra.length), decide_eq_true h5, Int.toNat_natCast, decide_eq_true (h6 i (by omega)).2, k_next hk i (by omega), w64_in (n := (i : Int) + 1) (by omega) (by omega)]
        rfl
      · have : i = q.toNat := by omega
        subst this
        refine .inr ⟨⟨4, .inl rfl⟩, fun K' => ?_⟩
        rw [gK2_step, decide_eq_false (by omega : ¬ (q.toNat : Int) < q)]
        rfl
  · exact h_gK0 _ _ _ _ _ h hp
def l_gK2 : Nat → St → Option (List (Bool × Ex × St))
  | 0, ⟨[(2, .ptr 0 0 3), (3, .ptr 1 0 3), (4, .ptr 2 0 3), (5, .int .i64 0), (6, .ptr 5 0 3), (7, .vr .i64 ra), (8, .vr .i64 rb), (9, .int .i64 r), (10, .sl 4 1 f w), (11, .int .i64 d), (12, .int .i64 0), (40, .sl 7 1 0 3), (41, .int .i64 jj), (42, .int .i64 rr), (47, .sl 4 1 fz wz), (48, .int .i64 wn), (49, .int .i64 c), (55, .vi .i64 y), (56, .int .i64 q), (57, .int .i64 0)], [(7, .ro (.cells [.sl 4 1 o0 w0, .sl 4 1 o1 w1, .sl 4 1 o2 w2])), (4, .fix (.ints .i64 L)), (5, .fix (.cells [.int .i64 n5, .int .i64 m5, .sl 4 1 0 k5])), (2, .fix (.cells [.int .i64 0, .int .i64 0, .nilsl])), (1, .fix (.cells [.int .i64 kb, .int .i64 m, .vi .i64 b])), (0, .fix (.cells [.int .i64 n, .int .i64 ka, .vi .i64 a]))], 8⟩ => some [(M.okCk ra y q d, .exit 4, gK3 ra rb r f w jj rr fz wz wn c o0 w0 o1 w1 o2 w2 L n5 m5 k5 kb m b n ka a d (M.dotZ q.toNat (M.kpr ra y d.toNat)) y q q)]
  | lo, st => l_gK1 lo st
theorem h_gK2 : ∀ lo st alts ex st', l_gK2 lo st = some alts → pickL alts = some (ex, st') → LoopEq q2 30 4 lo st ex st' := by
  intro lo st alts ex st' h hp
  unfold l_gK2 at h
  split at h
  · simp only [Option.some.injEq] at h
    subst h
    rename_i ra rb r f w d jj rr fz wz wn c y q o0 w0 o1 w1 o2 w2 L n5 m5 k5 kb m b n ka a
    cases hk : M.okCk ra y q d with
    | false => rw [hk] at hp; cases hp
    | true =>
      rw [hk] at hp
      cases hp
      obtain ⟨h1, h2, h3, h4, h5, h6⟩ := okCk_iff hk
      refine loop_known (m := 0) (kp := keep 30 4) q2_ok noCall_ok ?_
      have main := loop_rule (lo := 0) (kp := keep 30 4) (b := execK q2 30 0 (ntAt q2.P 30) noCall 0 none (bodyAt q2.P 30 4)) (K := fun ex st => some (ex, st)) (fun i => gK3 ra rb r f w jj rr fz wz wn c o0 w0 o1 w1 o2 w2 L n5 m5 k5 kb m b n ka a d (M.dotZ i (M.kpr ra y d.toNat)) y q i) (fun i => i ≤ q.toNat) (fun i => q.toNat - i) (fun _ => (.exit 4, gK3 ra rb r f w jj rr fz wz wn c o0 w0 o1 w1 o2 w2 L n5 m5 k5 kb m b n ka a d (M.dotZ q.toNat (M.kpr ra y d.toNat)) y q q.toNat)) (fun i hi => ?_) 0 (Nat.zero_le _)
      · rw [show (q.toNat : Int) = q by omega] at main; exact main
      by_cases hlt : i < q.toNat
      · refine .inl ⟨i + 1, hlt, by omega, rfl, fun K' => ?_⟩
        rw [gK3_step, decide_eq_true (by omega : (i : Int) < q), decide_eq_true (by omega : (0 : Int) ≤ i), decide_eq_true (by omega : (i : Int) < y.length), decide_eq_true (by omega : (i : Int) < ra.length), decide_eq_true h5, Int.toNat_natCast, decide_eq_true (h6 i (by omega)).2, k_next hk i (by omega), w64_in (n := (i : Int) + 1) (by omega) (by omega)]
        rfl
      · have : i = q.toNat := by omega
        subst this
        refine .inr ⟨⟨4, .inl rfl⟩, fun K' => ?_⟩
        rw [gK3_step, decide_eq_false (by omega : ¬ (q.toNat : Int) < q)]
        rfl
  · exact h_gK1 _ _ _ _ _ h hp
def l_gK3 : Nat → St → Option (List (Bool × Ex × St))
  | 0, ⟨[(2, .ptr 0 0 3), (3, .ptr 1 0 3), (4, .ptr 2 0 3), (5, .int .i64 0), (6, .ptr 5 0 3), (7, .vr .i64 ra), (8, .vr .i64 rb), (9, .int .i64 r), (10, .sl 4 1 f w), (11, .int .i64 d), (12, .int .i64 0), (40, .sl 7 1 0 4), (41, .int .i64 jj), (42, .int .i64 rr), (47, .sl 4 1 fz wz), (48, .int .i64 wn), (49, .int .i64 c), (55, .vi .i64 y), (56, .int .i64 q), (57, .int .i64 0)], [(7, .ro (.cells [.sl 4 1 o0 w0, .sl 4 1 o1 w1, .sl 4 1 o2 w2, .sl 4 1 o3 w3])), (4, .fix (.ints .i64 L)), (5, .fix (.cells [.int .i64 n5, .int .i64 m5, .sl 4 1 0 k5])), (2, .fix (.cells [.int .i64 0, .int .i64 0, .nilsl])), (1, .fix (.cells [.int .i64 kb, .int .i64 m, .vi .i64 b])), (0, .fix (.cells [.int .i64 n, .int .i64 ka, .vi .i64 a]))], 8⟩ => some [(M.okCk ra y q d, .exit 4, gK4 ra rb r f w jj rr fz wz wn c o0 w0 o1 w1 o2 w2 o3 w3 L n5 m5 k5 kb m b n ka a d (M.dotZ q.toNat (M.kpr ra y d.toNat)) y q q)]
  | lo, st => l_gK2 lo st
theorem h_gK3 : ∀ lo st alts ex st', l_gK3 lo st = some alts → pickL alts = some (ex, st') → LoopEq q2 30 4 lo st ex st' := by
  intro lo st alts ex st' h hp
  unfold l_gK3 at h
  split at h
  · simp only [Option.some.injEq] at h
    subst h
    rename_i ra rb r f w d jj rr fz wz wn c y q o0 w0 o1 w1 o2 w2 o3 w3 L n5 m5 k5 kb m b n ka a
    cases hk : M.okCk ra y q d with
    | false => rw [hk] at hp; cases hp
    | true =>
      rw [hk] at hp
      cases hp
      obtain ⟨h1, h2, h3, h4, h5, h6⟩ := okCk_iff hk
      refine loop_known (m := 0) (kp := keep 30 4) q2_ok noCall_ok ?_
      have main := loop_rule (lo := 0) (kp := keep 30 4) (b := execK q2 30 0 (ntAt q2.P 30) noCall 0 none (bodyAt q2.P 30 4)) (K := fun ex st => some (ex, st)) (fun i => gK4 ra rb r f w jj rr fz wz wn c o0 w0 o1 w1 o2 w2 o3 w3 L n5 m5 k5 kb m b n ka a d (M.dotZ i (M.kpr ra y d.toNat)) y q i) (fun i => i ≤ q.toNat) (fun i => q.toNat - i) (fun _ => (.exit 4, gK4 ra rb r f w jj rr fz wz wn c o0 w0 o1 w1 o2 w2 o3 w3 L n5 m5 k5 kb m b n ka a d (M.dotZ q.toNat (M.kpr ra y d.toNat)) y q q.toNat)) (fun i hi => ?_) 0 (Nat.zero_le _)
      · rw [show (q.toNat : Int) = q by omega] at main; exact main
      by_cases hlt : i < q.toNat
      · refine .inl ⟨i + 1, hlt, by omega, rfl, fun K' => ?_⟩
        rw [gK4_step, decide_eq_true (by omega : (i : Int) < q), decide_eq_true (by omega : (0 : Int) ≤ i), decide_eq_true (by omega : (i : Int) < y.length), decide_eq_true (by omega : (i : Int) < ra.length), decide_eq_true h5, Int.toNat_natCast, decide_eq_true (h6 i (by omega)).2, k_next hk i (by omega), w64_in (n := (i : Int) + 1) (by omega) (by omega)]
        rfl
      · have : i = q.toNat := by omega
        subst this
        refine .inr ⟨⟨4, .inl rfl⟩, fun K' => ?_⟩
        rw [gK4_step, decide_eq_false (by omega : ¬ (q.toNat : Int) < q)]
        rfl
  · exact h_gK2 _ _ _ _ _ h hp
def l_gK4 : Nat → St → Option (List (Bool × Ex × St))
  | 0, ⟨[(2, .ptr 0 0 3), (3, .ptr 1 0 3), (4, .ptr 2 0 3), (5, .int .i64 0), (6, .ptr 5 0 3), (7, .vr .i64 ra), (8, .vr .i64 rb), (9, .int .i64 r), (10, .sl 4 1 f w), (11, .int .i64 d), (12, .int .i64 0), (40, .sl 7 1 0 5), (41, .int .i64 jj), (42, .int .i64 rr), (47, .sl 4 1 fz wz), (48, .int .i64 wn), (49, .int .i64 c), (55, .vi .i64 y), (56, .int .i64 q), (57, .int .i64 0)], [(7, .ro (.cells [.sl 4 1 o0 w0, .sl 4 1 o1 w1, .sl 4 1 o2 w2, .sl 4 1 o3 w3, .sl 4 1 o4 w4])), (4, .fix (.ints .i64 L)), (5, .fix (.cells [.int .i64 n5, .int .i64 m5, .sl 4 1 0 k5])), (2, .fix (.cells [.int .i64 0, .int .i64 0, .nilsl])), (1, .fix (.cells [.int .i64 kb, .int .i64 m, .vi .i64 b])), (0, .fix (.cells [.int .i64 n, .int .i64 ka, .vi .i64 a]))], 8⟩ => some [(M.okCk ra y q d, .exit 4, gK5 ra rb r f w jj rr fz wz wn c o0 w0 o1 w1 o2 w2 o3 w3 o4 w4 L n5 m5 k5 kb m b n ka a d (M.dotZ q.toNat (M.kpr ra y d.toNat)) y q q)]
  | lo, st => l_gK3 lo st
theorem h_gK4 : ∀ lo st alts ex st', l_gK4 lo st = some alts → pickL alts = some (ex, st') → LoopEq q2 30 4 lo st ex st' := by
  intro lo st alts ex st' h hp
  unfold l_gK4 at h
  split at h
  · simp only [Option.some.injEq] at h
    subst h
    rename_i ra rb r f w d jj rr fz wz wn c y q o0 w0 o1 w1 o2 w2 o3 w3 o4 w4 L n5 m5 k5 kb m b n ka a
    cases hk : M.okCk ra y q d with
    | false => rw [hk] at hp; cases hp
    | true =>
      rw [hk] at hp
      cases hp
      obtain ⟨h1, h2, h3, h4, h5, h6⟩ := okCk_iff hk
      refine loop_known (m := 0) (kp := keep 30 4) q2_ok noCall_ok ?_
      have main := loop_rule (lo := 0) (kp := keep 30 4) (b := execK q2 30 0 (ntAt q2.P 30) noCall 0 none (bodyAt q2.P 30 4)) (K := fun ex st => some (ex, st)) (fun i => gK5 ra rb r f w jj rr fz wz wn c o0 w0 o1 w1 o2 w2 o3 w3 o4 w4 L n5 m5 k5 kb m b n ka a d (M.dotZ i (M.kpr ra y d.toNat)) y q i) (fun i => i ≤ q.toNat) (fun i => q.toNat - i) (fun _ => (.exit 4, gK5 ra rb r f w jj rr fz wz wn c o0 w0 o1 w1 o2 w2 o3 w3 o4 w4 L n5 m5 k5 kb m b n ka a d (M.dotZ q.toNat (M.kpr ra y d.toNat)) y q q.toNat)) (fun i hi => ?_) 0 (Nat.zero_le _)
      · rw [show (q.toNat : Int) = q by omega] at main; exact main
      by_cases hlt : i < q.toNat
      · refine .inl ⟨i + 1, hlt, by omega, rfl, fun K' => ?_⟩
        rw [gK5_step, decide_eq_true (by omega : (i : Int) < q), decide_eq_true (by omega : (0 : Int) ≤ i), decide_eq_true (by omega : (i : Int) < y.length), decide_eq_true (by omega : (i : Int) < ra.length), decide_eq_true h5, Int.toNat_natCast, decide_eq_true (h6 i (by omega)).2, k_next hk i (by omega), w64_in (n := (i : Int) + 1) (by omega) (by omega)]
        rfl
      · have : i = q.toNat := by omega
        subst this
        refine .inr ⟨⟨4, .inl rfl⟩, fun K' => ?_⟩
        rw [gK5_step, decide_eq_false (by omega : ¬ (q.toNat : Int) < q)]
        rfl
  · exact h_gK3 _ _ _ _ _ h hp
def l_gK5 : Nat → St → Option (List (Bool × Ex × St))
  | 0, ⟨[(2, .ptr 0 0 3), (3, .ptr 1 0 3), (4, .ptr 2 0 3), (5, .int .i64 0), (6, .ptr 5 0 3), (7, .vr .i64 ra), (8, .vr .i64 rb), (9, .int .i64 r), (10, .sl 4 1 f w), (11, .int .i64 d), (12, .int .i64 0), (40, .sl 7 1 0 6), (41, .int .i64 jj), (42, .int .i64 rr), (47, .sl 4 1 fz wz), (48, .int .i64 wn), (49, .int .i64 c), (55, .vi .i64 y), (56, .int .i64 q), (57, .int .i64 0)], [(7, .ro (.cells [.sl 4 1 o0 w0, .sl 4 1 o1 w1, .sl 4 1 o2 w2, .sl 4 1 o3 w3, .sl 4 1 o4 w4, .sl 4 1 o5 w5])), (4, .fix (.ints .i64 L)), (5, .fix (.cells [.int .i64 n5, .int .i64 m5, .sl 4 1 0 k5])), (2, .fix (.cells [.int .i64 0, .int .i64 0, .nilsl])), (1, .fix (.cells [.int .i64 kb, .int .i64 m, .vi .i64 b])), (0, .fix (.cells [.int .i64 n, .int .i64 ka, .vi .i64 a]))], 8⟩ => some [(M.okCk ra y q d, .exit 4, gK6 ra rb r f w jj rr fz wz wn c o0 w0 o1 w1 o2 w2 o3 w3 o4 w4 o5 w5 L n5 m5 k5 kb m b n ka a d (M.dotZ q.toNat (M.kpr ra y d.toNat)) y q q)]
  | lo, st => l_gK4 lo st
theorem h_gK5 : ∀ lo st alts ex st', l_gK5 lo st = some alts → pickL alts = some (ex, st') → LoopEq q2 30 4 lo st ex st' := by
  intro lo st alts ex st' h hp
  unfold l_gK5 at h
  split at h
  · simp only [Option.some.injEq] at h
    subst h
    rename_i ra rb r f w d jj rr fz wz wn c y q o0 w0 o1 w1 o2 w2 o3 w3 o4 w4 o5 w5 L n5 m5 k5 kb m b n ka a
    cases hk : M.okCk ra y q d with
    | false => rw [hk] at hp; cases hp
    | true =>
      rw [hk] at hp
      cases hp
      obtain ⟨h1, h2, h3, h4, h5, h6⟩ := okCk_iff hk
      refine loop_known (m := 0) (kp := keep 30 4) q2_ok noCall_ok ?_
      have main := loop_rule (lo := 0) (kp := keep 30 4) (b := execK q2 30 0 (ntAt q2.P 30) noCall 0 none (bodyAt q2.P 30 4)) (K := fun ex st => some (ex, st)) (fun i => gK6 ra rb r f w jj rr fz wz wn c o0 w0 o1 w1 o2 w2 o3 w3 o4 w4 o5 w5 L n5 m5 k5 kb m b n ka a d (M.dotZ i (M.kpr ra y d.toNat)) y q i) (fun i => i ≤ q.toNat) (fun i => q.toNat - i) (fun _ => (.exit 4, gK6 ra rb r f w jj rr fz wz wn c o0 w0 o1 w1 o2 w2 o3 w3 o4 w4 o5 w5 L n5 m5 k5 kb m b n ka a d (M.dotZ q.toNat (M.kpr ra y d.toNat)) y q q.toNat)) (fun i hi => ?_) 0 (Nat.zero_le _)
      · rw [show (q.toNat : Int) = q by omega] at main; exact main
      by_cases hlt : i < q.toNat
      · refine .inl ⟨i + 1, hlt, by omega, rfl, fun K' => ?_⟩
        rw [gK6_step, decide_eq_true (by omega : (i : Int) < q), decide_eq_true (by omega : (0 : Int) ≤ i), decide_eq_true (by omega : (i : Int) < y.length), decide_eq_true (by omega : (i : Int) < ra.length), decide_eq_true h5, Int.toNat_natCast, decide_eq_true (h6 i (by omega)).2, k_next hk i (by omega), w64_in (n := (i : Int) + 1) (by omega) (by omega)]
        rfl
      · have : i = q.toNat := by omega
        subst this
        refine .inr ⟨⟨4, .inl rfl⟩, fun K' => ?_⟩
        rw [gK6_step, decide_eq_false (by omega : ¬ (q.toNat : Int) < q)]
        rfl
  · exact h_gK4 _ _ _ _ _ h hp
def l_gK6 : Nat → St → Option (List (Bool × Ex × St))
  | 0, ⟨[(2, .ptr 0 0 3), (3, .ptr 1 0 3), (4, .ptr 2 0 3), (5, .int .i64 0), (6, .ptr 5 0 3), (7, .vr .i64 ra), (8, .vr .i64 rb), (9, .int .i64 r), (10, .sl 4 1 f w), (11, .int .i64 d), (12, .int .i64 0), (40, .sl 7 1 0 7), (41, .int .i64 jj), (42, .int .i64 rr), (47, .sl 4 1 fz wz), (48, .int .i64 wn), (49, .int .i64 c), (55, .vi .i64 y), (56, .int .i64 q), (57, .int .i64 0)], [(7, .ro (.cells [.sl 4 1 o0 w0, .sl 4 1 o1 w1, .sl 4 1 o2 w2, .sl 4 1 o3 w3, .sl 4 1 o4 w4, .sl 4 1 o5 w5, .sl 4 1 o6 w6])), (4, .fix (.ints .i64 L)), (5, .fix (.cells [.int .i64 n5, .int .i64 m5, .sl 4 1 0 k5])), (2, .fix (.cells [.int .i64 0, .int .i64 0, .nilsl])), (1, .fix (.cells [.int .i64 kb, .int .i64 m, .vi .i64 b])), (0, .fix (.cells [.int .i64 n, .int .i64 ka, .vi .i64 a]))], 8⟩ => some [(M.okCk ra y q d, .exit 4, gK7 ra rb r f w jj rr fz wz wn c o0 w0 o1 w1 o2 w2 o3 w3 o4 w4 o5 w5 o6 w6 L n5 m5 k5 kb m b n ka a d (M.dotZ q.toNat (M.kpr ra y d.toNat)) y q q)]
  | lo, st => l_gK5 lo st
theorem h_gK6 : ∀ lo st alts ex st', l_gK6 lo st = some alts → pickL alts = some (ex, st') → LoopEq q2 30 4 lo st ex st' := by
  intro lo st alts ex st' h hp
  unfold l_gK6 at h
  split at h
  · simp only [Option.some.injEq] at h
    subst h
    rename_i ra rb r f w d jj rr fz wz wn c y q o0 w0 o1 w1 o2 w2 o3 w3 o4 w4 o5 w5 o6 w6 L n5 m5 k5 kb m b n ka a
    cases hk : M.okCk ra y q d with
    | false => rw [hk] at hp; cases hp
    | true =>
      rw [hk] at hp
      cases hp
      obtain ⟨h1, h2, h3, h4, h5, h6⟩ := okCk_iff hk
      refine loop_known (m := 0) (kp := keep 30 4) q2_ok noCall_ok ?_
      have main := loop_rule (lo := 0) (kp := keep 30 4) (b := execK q2 30 0 (ntAt q2.P 30) noCall 0 none (bodyAt q2.P 30 4)) (K := fun ex st => some (ex, st)) (fun i => gK7 ra rb r f w jj rr fz wz wn c o0 w0 o1 w1 o2 w2 o3 w3 o4 w4 o5 w5 o6 w6 L n5 m5 k5 kb m b n ka a d (M.dotZ i (M.kpr ra y d.toNat)) y q i) (fun i => i ≤ q.toNat) (fun i => q.toNat - i) (fun _ => (.exit 4, gK7 ra rb r f w jj rr fz wz wn c o0 w0 o1 w1 o2 w2 o3 w3 o4 w4 o5 w5 o6 w6 L n5 m5 k5 kb m b n ka a d (M.dotZ q.toNat (M.kpr ra y d.toNat)) y q q.toNat)) (fun i hi => ?_) 0 (Nat.zero_le _)
      · rw [show (q.toNat : Int) = q by omega] at main; exact main
      by_cases hlt : i < q.toNat
      · refine .inl ⟨i + 1, hlt, by omega, rfl, fun K' => ?_⟩
        rw [gK7_step, decide_eq_true (by omega : (i : Int) < q), decide_eq_true (by omega : (0 : Int) ≤ i), decide_eq_true (by omega : (i : Int) < y.length), decide_eq_true (by omega : (i : Int) < ra.length), decide_eq_true h5, Int.toNat_natCast, decide_eq_true (h6 i (by omega)).2, k_next hk i (by omega), w64_in (n := (i : Int) + 1) (by omega) (by omega)]
        rfl
      · have : i = q.toNat := by omega
        subst this
        refine .inr ⟨⟨4, .inl rfl⟩, fun K' => ?_⟩
        rw [gK7_step, decide_eq_false (by omega : ¬ (q.toNat : Int) < q)]
        rfl
  · exact h_gK5 _ _ _ _ _ h hp
def l_gK7 : Nat → St → Option (List (Bool × Ex × St))
  | 0, ⟨[(2, .ptr 0 0 3), (3, .ptr 1 0 3), (4, .ptr 2 0 3), (5, .int .i64 0), (6, .ptr 5 0 3), (7, .vr .i64 ra), (8, .vr .i64 rb), (9, .int .i64 r), (10, .sl 4 1 f w), (11, .int .i64 d), (12, .int .i64 0), (40, .sl 7 1 0 8), (41, .int .i64 jj), (42, .int .i64 rr), (47, .sl 4 1 fz wz), (48, .int .i64 wn), (49, .int .i64 c), (55, .vi .i64 y), (56, .int .i64 q), (57, .int .i64 0)], [(7, .ro (.cells [.sl 4 1 o0 w0, .sl 4 1 o1 w1, .sl 4 1 o2 w2, .sl 4 1 o3 w3, .sl 4 1 o4 w4, .sl 4 1 o5 w5, .sl 4 1 o6 w6, .sl 4 1 o7 w7])), (4, .fix (.ints .i64 L)), (5, .fix (.cells [.int .i64 n5, .int .i64 m5, .sl 4 1 0 k5])), (2, .fix (.cells [.int .i64 0, .int .i64 0, .nilsl])), (1, .fix (.cells [.int .i64 kb, .int .i64 m, .vi .i64 b])), (0, .fix (.cells [.int .i64 n, .int .i64 ka, .vi .i64 a]))], 8⟩ => some [(M.okCk ra y q d, .exit 4, gK8 ra rb r f w jj rr fz wz wn c o0 w0 o1 w1 o2 w2 o3 w3 o4 w4 o5 w5 o6 w6 o7 w7 L n5 m5 k5 kb m b n ka a d (M.dotZ q.toNat (M.kpr ra y d.toNat)) y q q)]
  | lo, st => l_gK6 lo st
theorem h_gK7 : ∀ lo st alts ex st', l_gK7 lo st = some alts → pickL alts = some (ex, st') → LoopEq q2 30 4 lo st ex st' := by
  intro lo st alts ex st' h hp
  unfold l_gK7 at h
  split at h
  · simp only [Option.some.injEq] at h
    subst h
    rename_i ra rb r f w d jj rr fz wz wn c y q o0 w0 o1 w1 o2 w2 o3 w3 o4 w4 o5 w5 o6 w6 o7 w7 L n5 m5 k5 kb m b n ka a
    cases hk : M.okCk ra y q d with
    | false => rw [hk] at hp; cases hp
    | true =>
      rw [hk] at hp
      cases hp
      obtain ⟨h1, h2, h3, h4, h5, h6⟩ := okCk_iff hk
      refine loop_known (m := 0) (kp := keep 30 4) q2_ok noCall_ok ?_
      have main := loop_rule (lo := 0) (kp := keep 30 4) (b := execK q2 30 0 (ntAt q2.P 30) noCall 0 none (bodyAt q2.P 30 4)) (K := fun ex st => some (ex, st)) (fun i => gK8 ra rb r f w jj rr fz wz wn c o0 w0 o1 w1 o2 w2 o3 w3 o4 w4 o5 w5 o6 w6 o7 w7 L n5 m5 k5 kb m b n ka a d (M.dotZ i (M.kpr ra y d.toNat)) y q i) (fun i => i ≤ q.toNat) (fun i => q.toNat - i) (fun _ => (.exit 4, gK8 ra rb r f w jj rr fz wz wn c o0 w0 o1 w1 o2 w2 o3 w3 o4 w4 o5 w5 o6 w6 o7 w7 L n5 m5 k5 kb m b n ka a d (M.dotZ q.toNat (M.kpr ra y d.toNat)) y q q.toNat)) (fun i hi => ?_) 0 (Nat.zero_le _)
      · rw [show (q.toNat : Int) = q by omega] at main; exact main
      by_cases hlt : i < q.toNat
      · refine .inl ⟨i + 1, hlt, by omega, rfl, fun K' => ?_⟩
        rw [gK8_step, decide_eq_true (by omega : (i : Int) < q), decide_eq_true (by omega : (0 : Int) ≤ i), decide_eq_true (by omega : (i : Int) < y.length), decide_eq_true (by omega : (i : Int) < ra.length), decide_eq_true h5, Int.toNat_natCast, decide_eq_true (h6 i (by omega)).2, k_next hk i (by omega), w64_in (n := (i : Int) + 1) (by omega) (by omega)]
        rfl
      · have : i = q.toNat := by omega
        subst this
        refine .inr ⟨⟨4, .inl rfl⟩, fun K' => ?_⟩
        rw [gK8_step, decide_eq_false (by omega : ¬ (q.toNat : Int) < q)]
        rfl
  · exact h_gK6 _ _ _ _ _ h hp
noncomputable def q3 : Cfg := q2.addLL 30 4 l_gK7
theorem q3_ok : CfgOK q3 := addLL_ok q2_ok (by kernel_rfl) h_gK7
end Go.Proofs.Ytplcpdjabjjfiaa
