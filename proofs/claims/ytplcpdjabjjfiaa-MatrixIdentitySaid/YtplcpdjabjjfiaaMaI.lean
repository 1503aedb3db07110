/- The models of matrices: products, the program. -/
import Derived.Test.YtplcpdjabjjfiaaMaH
namespace Go.Proofs.Ytplcpdjabjjfiaa
open Am
set_option maxRecDepth 100000
set_option linter.unusedVariables false
set_option linter.unusedSimpArgs false
set_option maxHeartbeats 4000000

namespace M
def part (n : Int) (a : List Int) (kb m : Int) (b : List Int) (r : Nat) : List Int := mulD n a kb b r ++ List.replicate ((m.toNat - r) * n.toNat) 0
end M
theorem putR_part {n : Int} {a : List Int} {kb m : Int} {b : List Int} {r : Nat} (hr : (r : Int) < m) : M.putR n a kb b r n.toNat (M.part n a kb m b r) = M.part n a kb m b (r + 1) := by
  unfold M.putR M.part
  have hl := mulD_length n a kb b r
  obtain ⟨d, hd⟩ : ∃ d, m.toNat - r = d + 1 := ⟨m.toNat - r - 1, by omega⟩
  have hd2 : m.toNat - (r + 1) = d := by omega
  rw [List.take_append_of_le_length (by omega), List.take_of_length_le (by omega), List.drop_append, List.drop_of_length_le (by omega), hl, hd, hd2, mulD_snoc, show r * n.toNat + n.toNat - r * n.toNat = n.toNat by omega, List.nil_append, List.drop_replicate, Nat.add_mul, Nat.one_mul, show d * n.toNat + n.toNat - n.toNat = d * n.toNat by omega]
theorem part_len (n : Int) (a : List Int) (kb m : Int) (b : List Int) {r : Nat} (h0 : 0 ≤ n) (h1 : 0 ≤ m) (hr : (r : Int) ≤ m) : ((M.part n a kb m b r).length : Int) = n * m := by
  unfold M.part
  rw [List.length_append, mulD_length, List.length_replicate, ← Nat.add_mul, show r + (m.toNat - r) = m.toNat by omega, Int.natCast_mul, Int.toNat_of_nonneg h0, Int.toNat_of_nonneg h1, Int.mul_comm]
theorem part_zero (n : Int) (a : List Int) (kb m : Int) (b : List Int) (h0 : 0 ≤ n) (h1 : 0 ≤ m) : List.replicate (n * m).toNat 0 = M.part n a kb m b 0 := by
  unfold M.part
  rw [show M.mulD n a kb b 0 = [] from rfl, List.nil_append, Nat.sub_zero]
  congr 1
  obtain ⟨x, rfl⟩ := Int.eq_ofNat_of_zero_le h0
  obtain ⟨y, rfl⟩ := Int.eq_ofNat_of_zero_le h1
  rw [← Int.natCast_mul, Int.toNat_natCast, Int.toNat_natCast, Int.toNat_natCast, Nat.mul_comm]
theorem part_end (n : Int) (a : List Int) (kb m : Int) (b : List Int) : M.part n a kb m b m.toNat = M.mulD n a kb b m.toNat := by
  unfold M.part
  rw [Nat.sub_self, Nat.zero_mul]
  exact List.append_nil _
theorem okCq_of {n ka : Int} {a : List Int} {kb m : Int} {b : List Int} (h : M.okMul n ka a kb m b = true) {r : Nat} (hr : (r : Int) < m) {L : List Int} (hL : L = M.part n a kb m b r) :
    M.okCq n ka a kb m b (M.rowsL n ka a) (M.rowsL kb m b) r (r * n.toNat) n.toNat n.toNat L = true := by
  obtain ⟨⟨n1, n2, k1, k2, hla, hca⟩, ⟨j1, j2, m1, m2, hlb, hcb⟩, hkk2⟩ := okMul_iff h
  subst hL
  unfold M.okCq M.okMulR
  rw [h, decide_eq_true (by omega), Int.toNat_natCast, decide_eq_true hr, decide_eq_true rfl, decide_eq_true rfl, decide_eq_true rfl, decide_eq_true rfl, decide_eq_true (show (n.toNat : Int) = n by omega), decide_eq_true (part_len n a kb m b (by omega) (by omega) (by omega))]
  rfl

theorem p_Mul (n ka : Int) (a : List Int) (kb m : Int) (b : List Int) (hc : (decide (a.length < 4294967296) && decide (b.length < 4294967296)) = true) : PureOK q4.P 30 [.agg [.int .i64 n, .int .i64 ka, .vi .i64 a], .agg [.int .i64 kb, .int .i64 m, .vi .i64 b]] (.tuple [.agg [.int .i64 (M.mulI n ka a kb m b), .int .i64 (M.mulO n ka a kb m b), .vi .i64 (M.mulC n ka a kb m b)], .int .i64 (M.mulE n ka a kb m b)]) := by
  rw [Bool.and_eq_true] at hc
  obtain ⟨hc1, hc2⟩ := hc
  have key : M.mtxV n ka a = true → M.mtxV kb m b = true → kb = ka → False ∨ PureOK q4.P 30 [.agg [.int .i64 n, .int .i64 ka, .vi .i64 a], .agg [.int .i64 kb, .int .i64 m, .vi .i64 b]] (.tuple [.agg [.int .i64 (M.mulI n ka a kb m b), .int .i64 (M.mulO n ka a kb m b), .vi .i64 (M.mulC n ka a kb m b)], .int .i64 (M.mulE n ka a kb m b)]) := by
    intro hm hv hcn
    refine .inr ?_
    have hA := okMul_of hm hv hcn
    obtain ⟨⟨n1, n2, k1, k2, hla, hca⟩, ⟨j1, j2, m1, m2, hlb, hcb⟩, hkk2⟩ := okMul_iff hA
    have hE : M.mulE n ka a kb m b = 0 := by unfold M.mulE; rw [hm, hv, show (kb != ka) = false by simp [hcn]]; rfl
    have hI : M.mulI n ka a kb m b = n := by unfold M.mulI; rw [hE]; rfl
    have hO : M.mulO n ka a kb m b = m := by unfold M.mulO; rw [hE]; rfl
    have hC : M.mulC n ka a kb m b = M.mulD n a kb b m.toNat := by unfold M.mulC; rw [hE]; rfl
    rw [hE, hI, hO, hC]
    have a0 : 0 ≤ n * m := Int.mul_nonneg (by omega) (by omega)
    have a1 : n * m ≤ 8 * 8 := Int.mul_le_mul (by omega) (by omega) (by omega) (by omega)
    have hw : M.w64 (n * m) = n * m := w64_in (by omega) (by omega)
    have hTb : M.okTb n m (n * m).toNat = true := by
      unfold M.okTb
      rw [decide_eq_true (by omega), decide_eq_true (by omega), decide_eq_true (by omega), decide_eq_true (by omega), decide_eq_true (by omega)]
      rfl
    have hz := part_zero n a kb m b (by omega) (by omega)
    have hQ : ∀ r : Nat, (r : Int) < m → M.okCq n ka a kb m b (M.rowsL n ka a) (M.rowsL kb m b) r (r * n.toNat) n.toNat n.toNat (M.part n a kb m b r) = true := fun r hr => okCq_of hA hr rfl
    have hP : ∀ r : Nat, (r : Int) < m → M.putR n a kb b r n.toNat (M.part n a kb m b r) = M.part n a kb m b (r + 1) := fun r hr => putR_part hr
    have hEnd := part_end n a kb m b
    have hlen := part_len n a kb m b (r := m.toNat) (by omega) (by omega) (by omega)
    have hR1 := (mtxV_ok hm).1
    have hR2 := (mtxV_ok hv).1
    have hm8 : m = 1 ∨ m = 2 ∨ m = 3 ∨ m = 4 ∨ m = 5 ∨ m = 6 ∨ m = 7 ∨ m = 8 := by omega
    rcases hm8 with rfl | rfl | rfl | rfl | rfl | rfl | rfl | rfl
    · refine pure_of_callB (m := 20) (inls_ok q4_ok 20 2) noCall_ok (u := []) (nx := 0) ((show callB (q4.inls 20 2) noCall 20 30 [.agg [.int .i64 n, .int .i64 ka, .vi .i64 a], .agg [.int .i64 kb, .int .i64 1, .vi .i64 b]] [] 0 = (bif decide (a.length < 4294967296) && true then (bif !!M.mtxV n ka a then (bif decide (b.length < 4294967296) && true then (bif !M.mtxV kb 1 b then some (.tuple [.agg [.int .i64 0, .int .i64 0, .nilsl], .int .i64 1], [], 0) else bif kb != ka then some (.tuple [.agg [.int .i64 0, .int .i64 0, .nilsl], .int .i64 11], [], 0) else (bif decide (0 ≤ M.w64 (n * 1)) && decide (M.w64 (n * 1) ≤ M.w64 (n * 1)) && decide (M.w64 (n * 1) ≤ 4294967296) && true then (bif M.okRw n ka a && true then (bif M.okRw kb 1 b && true then (bif M.okTb n 1 (M.w64 (n * 1)).toNat && true then (bif M.okCq n ka a kb 1 b (M.rowsL n ka a) (M.rowsL kb 1 b) 0 (0 * n.toNat) n.toNat n.toNat (List.replicate (M.w64 (n * 1)).toNat 0) then some (.tuple [.agg [.int .i64 n, .int .i64 1, .vi .i64 (((M.putR n a kb b 0 n.toNat (List.replicate (M.w64 (n * 1)).toNat 0)).drop 0).take (M.w64 (n * 1)).toNat)], .int .i64 0], [], 0) else none) else none) else none) else none) else none)) else none) else some (.tuple [.agg [.int .i64 0, .int .i64 0, .nilsl], .int .i64 1], [], 0)) else none) by kernel_rfl).trans ?_) rfl
      rw [hc1, hc2, hm, hv, show (kb != ka) = false by simp [hcn], hw, decide_eq_true a0, decide_eq_true (Int.le_refl _), decide_eq_true (by omega : n * 1 ≤ 4294967296), hR1, hR2, hTb, hz]
      have q0 := hQ 0 (by omega)
      have p0 := hP 0 (by omega)
      rw [show M.okCq n ka a kb 1 b (M.rowsL n ka a) (M.rowsL kb 1 b) 0 (0 * n.toNat) n.toNat n.toNat (M.part n a kb 1 b 0) = true from q0, p0]
      have e : (((M.part n a kb 1 b (1 : Int).toNat).drop 0).take (n * 1).toNat) = M.mulD n a kb b (1 : Int).toNat := by rw [List.drop_zero, List.take_of_length_le (by omega), hEnd]
      exact congrArg (fun z => some (AV.tuple [.agg [.int .i64 n, .int .i64 1, .vi .i64 z], .int .i64 0], ([] : Upd), 0)) e
    · refine pure_of_callB (m := 20) (inls_ok q4_ok 20 2) noCall_ok (u := []) (nx := 0) ((show callB (q4.inls 20 2) noCall 20 30 [.agg [.int .i64 n, .int .i64 ka, .vi .i64 a], .agg [.int .i64 kb, .int .i64 2, .vi .i64 b]] [] 0 = (bif decide (a.length < 4294967296) && true then (bif !!M.mtxV n ka a then (bif decide (b.length < 4294967296) && true then (bif !M.mtxV kb 2 b then some (.tuple [.agg [.int .i64 0, .int .i64 0, .nilsl], .int .i64 1], [], 0) else bif kb != ka then some (.tuple [.agg [.int .i64 0, .int .i64 0, .nilsl], .int .i64 11], [], 0) else (bif decide (0 ≤ M.w64 (n * 2)) && decide (M.w64 (n * 2) ≤ M.w64 (n * 2)) && decide (M.w64 (n * 2) ≤ 4294967296) && true then (bif M.okRw n ka a && true then (bif M.okRw kb 2 b && true then (bif M.okTb n 2 (M.w64 (n * 2)).toNat && true then (bif M.okCq n ka a kb 2 b (M.rowsL n ka a) (M.rowsL kb 2 b) 0 (0 * n.toNat) n.toNat n.toNat (List.replicate (M.w64 (n * 2)).toNat 0) then (bif M.okCq n ka a kb 2 b (M.rowsL n ka a) (M.rowsL kb 2 b) 1 (1 * n.toNat) n.toNat n.toNat (M.putR n a kb b 0 n.toNat (List.replicate (M.w64 (n * 2)).toNat 0)) then some (.tuple [.agg [.int .i64 n, .int .i64 2, .vi .i64 (((M.putR n a kb b 1 n.toNat (M.putR n a kb b 0 n.toNat (List.replicate (M.w64 (n * 2)).toNat 0))).drop 0).take (M.w64 (n * 2)).toNat)], .int .i64 0], [], 0) else none) else none) else none) else none) else none) else none)) else none) else some (.tuple [.agg [.int .i64 0, .int .i64 0, .nilsl], .int .i64 1], [], 0)) else none) by kernel_rfl).trans ?_) rfl
      rw [hc1, hc2, hm, hv, show (kb != ka) = false by simp [hcn], hw, decide_eq_true a0, decide_eq_true (Int.le_refl _), decide_eq_true (by omega : n * 2 ≤ 4294967296), hR1, hR2, hTb, hz]
      have q0 := hQ 0 (by omega)
      have p0 := hP 0 (by omega)
      have q1 := hQ 1 (by omega)
      have p1 := hP 1 (by omega)
      rw [show M.okCq n ka a kb 2 b (M.rowsL n ka a) (M.rowsL kb 2 b) 0 (0 * n.toNat) n.toNat n.toNat (M.part n a kb 2 b 0) = true from q0, p0]
      rw [show M.okCq n ka a kb 2 b (M.rowsL n ka a) (M.rowsL kb 2 b) 1 (1 * n.toNat) n.toNat n.toNat (M.part n a kb 2 b 1) = true from q1, p1]
      have e : (((M.part n a kb 2 b (2 : Int).toNat).drop 0).take (n * 2).toNat) = M.mulD n a kb b (2 : Int).toNat := by rw [List.drop_zero, List.take_of_length_le (by omega), hEnd]
      exact congrArg (fun z => some (AV.tuple [.agg [.int .i64 n, .int .i64 2, .vi .i64 z], .int .i64 0], ([] : Upd), 0)) e
    · refine pure_of_callB (m := 20) (inls_ok q4_ok 20 2) noCall_ok (u := []) (nx := 0) ((show callB (q4.inls 20 2) noCall 20 30 [.agg [.int .i64 n, .int .i64 ka, .vi .i64 a], .agg [.int .i64 kb, .int .i64 3, .vi .i64 b]] [] 0 = (bif decide (a.length < 4294967296) && true then (bif !!M.mtxV n ka a then (bif decide (b.length < 4294967296) && true then (bif !M.mtxV kb 3 b then some (.tuple [.agg [.int .i64 0, .int .i64 0, .nilsl], .int .i64 1], [], 0) else bif kb != ka then some (.tuple [.agg [.int .i64 0, .int .i64 0, .nilsl], .int .i64 11], [], 0) else (bif decide (0 ≤ M.w64 (n * 3)) && decide (M.w64 (n * 3) ≤ M.w64 (n * 3)) && decide (M.w64 (n * 3) ≤ 4294967296) && true then (bif M.okRw n ka a && true then (bif M.okRw kb 3 b && true then (bif M.okTb n 3 (M.w64 (n * 3)).toNat && true then (bif M.okCq n ka a kb 3 b (M.rowsL n ka a) (M.rowsL kb 3 b) 0 (0 * n.toNat) n.toNat n.toNat (List.replicate (M.w64 (n * 3)).toNat 0) then (bif M.okCq n ka a kb 3 b (M.rowsL n ka a) (M.rowsL kb 3 b) 1 (1 * n.toNat) n.toNat n.toNat (M.putR n a kb b 0 n.toNat (List.replicate (M.w64 (n * 3)).toNat 0)) then (bif M.okCq n ka a kb 3 b (M.rowsL n ka a) (M.rowsL kb 3 b) 2 (2 * n.toNat) n.toNat n.toNat (M.putR n a kb b 1 n.toNat (M.putR n a kb b 0 n.toNat (List.replicate (M.w64 (n * 3)).toNat 0))) then some (.tuple [.agg [.int .i64 n, .int .i64 3, .vi .i64 (((M.putR n a kb b 2 n.toNat (M.putR n a kb b 1 n.toNat (M.putR n a kb b 0 n.toNat (List.replicate (M.w64 (n * 3)).toNat 0)))).drop 0).take (M.w64 (n * 3)).toNat)], .int .i64 0], [], 0) else none) else none) else none) else none) else none) else none) else none)) else none) else some (.tuple [.agg [.int .i64 0, .int .i64 0, .nilsl], .int .i64 1], [], 0)) else none) by kernel_rfl).trans ?_) rfl
      rw [hc1, hc2, hm, hv, show (kb != ka) = false by simp [hcn], hw, decide_eq_true a0, decide_eq_true (Int.le_refl _), decide_eq_true (by omega : n * 3 ≤ 4294967296), hR1, hR2, hTb, hz]
      have q0 := hQ 0 (by omega)
      have p0 := hP 0 (by omega)
      have q1 := hQ 1 (by omega)
      have p1 := hP 1 (by omega)
      have q2 := hQ 2 (by omega)
      have p2 := hP 2 (by omega)
      rw [show M.okCq n ka a kb 3 b (M.rowsL n ka a) (M.rowsL kb 3 b) 0 (0 * n.toNat) n.toNat n.toNat (M.part n a kb 3 b 0) = true from q0, p0]
      rw [show M.okCq n ka a kb 3 b (M.rowsL n ka a) (M.rowsL kb 3 b) 1 (1 * n.toNat) n.toNat n.toNat (M.part n a kb 3 b 1) = true from q1, p1]
      rw [show M.okCq n ka a kb 3 b (M.rowsL n ka a) (M.rowsL kb 3 b) 2 (2 * n.toNat) n.toNat n.toNat (M.part n a kb 3 b 2) = true from q2, p2]
      have e : (((M.part n a kb 3 b (3 : Int).toNat).drop 0).take (n * 3).toNat) = M.mulD n a kb b (3 : Int).toNat := by rw [List.drop_zero, List.take_of_length_le (by omega), hEnd]
      exact congrArg (fun z => some (AV.tuple [.agg [.int .i64 n, .int .i64 3, .vi .i64 z], .int .i64 0], ([] : Upd), 0)) e
    · refine pure_of_callB (m := 20) (inls_ok q4_ok 20 2) noCall_ok (u := []) (nx := 0) ((show callB (q4.inls 20 2) noCall 20 30 [.agg [.int .i64 n, .int .i64 ka, .vi .i64 a], .agg [.int .i64 kb, .int .i64 4, .vi .i64 b]] [] 0 = (bif decide (a.length < 4294967296) && true then (bif !!M.mtxV n ka a then (bif decide (b.length < 4294967296) && true then (bif !M.mtxV kb 4 b then some (.tuple [.agg [.int .i64 0, .int .i64 0, .nilsl], .int .i64 1], [], 0) else bif kb != ka then some (.tuple [.agg [.int .i64 0, .int .i64 0, .nilsl], .int .i64 11], [], 0) else (bif decide (0 ≤ M.w64 (n * 4)) && decide (M.w64 (n * 4) ≤ M.w64 (n * 4)) && decide (M.w64 (n * 4) ≤ 4294967296) && true then (bif M.okRw n ka a && true then (bif M.okRw kb 4 b && true then (bif M.okTb n 4 (M.w64 (n * 4)).toNat && true then (bif M.okCq n ka a kb 4 b (M.rowsL n ka a) (M.rowsL kb 4 b) 0 (0 * n.toNat) n.toNat n.toNat (List.replicate (M.w64 (n * 4)).toNat 0) then (bif M.okCq n ka a kb 4 b (M.rowsL n ka a) (M.rowsL kb 4 b) 1 (1 * n.toNat) n.toNat n.toNat (M.putR n a kb b 0 n.toNat (List.replicate (M.w64 (n * 4)).toNat 0)) then (bif M.okCq n ka a kb 4 b (M.rowsL n ka a) (M.rowsL kb 4 b) 2 (2 * n.toNat) n.toNat n.toNat (M.putR n a kb b 1 n.toNat (M.putR n a kb b 0 n.toNat (List.replicate (M.w64 (n * 4)).toNat 0))) then (bif M.okCq n ka a kb 4 b (M.rowsL n ka a) (M.rowsL kb 4 b) 3 (3 * n.toNat) n.toNat n.toNat (M.putR n a kb b 2 n.toNat (M.putR n a kb b 1 n.toNat (M.putR n a kb b 0 n.toNat (List.replicate (M.w64 (n * 4)).toNat 0)))) then some (.tuple [.agg [.int .i64 n, .int .i64 4, .vi .i64 (((M.putR n a kb b 3 n.toNat (M.putR n a kb b 2 n.toNat (M.putR n a kb b 1 n.toNat (M.putR n a kb b 0 n.toNat (List.replicate (M.w64 (n * 4)).toNat 0))))).drop 0).take (M.w64 (n * 4)).toNat)], .int .i64 0], [], 0) else none) else none) else none) else none) else none) else none) else none) else none)) else none) else some (.tuple [.agg [.int .i64 0, .int .i64 0, .nilsl], .int .i64 1], [], 0)) else none) by kernel_rfl).trans ?_) rfl
      rw [hc1, hc2, hm, hv, show (kb != ka) = false by simp [hcn], hw, decide_eq_true a0, decide_eq_true (Int.le_refl _), decide_eq_true (by omega : n * 4 ≤ 4294967296), hR1, hR2, hTb, hz]
      have q0 := hQ 0 (by omega)
      have p0 := hP 0 (by omega)
      have q1 := hQ 1 (by omega)
      have p1 := hP 1 (by omega)
      have q2 := hQ 2 (by omega)
      have p2 := hP 2 (by omega)
      have q3 := hQ 3 (by omega)
      have p3 := hP 3 (by omega)
      rw [show M.okCq n ka a kb 4 b (M.rowsL n ka a) (M.rowsL kb 4 b) 0 (0 * n.toNat) n.toNat n.toNat (M.part n a kb 4 b 0) = true from q0, p0]
      rw [show M.okCq n ka a kb 4 b (M.rowsL n ka a) (M.rowsL kb 4 b) 1 (1 * n.toNat) n.toNat n.toNat (M.part n a kb 4 b 1) = true from q1, p1]
      rw [show M.okCq n ka a kb 4 b (M.rowsL n ka a) (M.rowsL kb 4 b) 2 (2 * n.toNat) n.toNat n.toNat (M.part n a kb 4 b 2) = true from q2, p2]
      rw [show M.okCq n ka a kb 4 b (M.rowsL n ka a) (M.rowsL kb 4 b) 3 (3 * n.toNat) n.toNat n.toNat (M.part n a kb 4 b 3) = true from q3, p3]
      have e : (((M.part n a kb 4 b (4 : Int).toNat).drop 0).take (n * 4).toNat) = M.mulD n a kb b (4 : Int).toNat := by rw [List.drop_zero, List.take_of_length_le (by omega), hEnd]
      exact congrArg (fun z => some (AV.tuple [.agg [.int .i64 n, .int .i64 4, .vi .i64 z], .int .i64 0], ([] : Upd), 0)) e
    · refine pure_of_callB (m := 20) (inls_ok q4_ok 20 2) noCall_ok (u := []) (nx := 0) ((show callB (q4.inls 20 2) noCall 20 30 [.agg [.int .i64 n, .int .i64 ka, .vi .i64 a], .agg [.int .i64 kb, .int .i64 5, .vi .i64 b]] [] 0 = (bif decide (a.length < 4294967296) && true then (bif !!M.mtxV n ka a then (bif decide (b.length < 4294967296) && true then (bif !M.mtxV kb 5 b then some (.tuple [.agg [.int .i64 0, .int .i64 0, .nilsl], .int .i64 1], [], 0) else bif kb != ka then some (.tuple [.agg [.int .i64 0, .int .i64 0, .nilsl], .int .i64 11], [], 0) else (bif decide (0 ≤ M.w64 (n * 5)) && decide (M.w64 (n * 5) ≤ M.w64 (n * 5)) && decide (M.w64 (n * 5) ≤ 4294967296) && true then (bif M.okRw n ka a && true then (bif M.okRw kb 5 b && true then (bif M.okTb n 5 (M.w64 (n * 5)).toNat && true then (bif M.okCq n ka a kb 5 b (M.rowsL n ka a) (M.rowsL kb 5 b) 0 (0 * n.toNat) n.toNat n.toNat (List.replicate (M.w64 (n * 5)).toNat 0) then (bif M.okCq n ka a kb 5 b (M.rowsL n ka a) (M.rowsL kb 5 b) 1 (1 * n.toNat) n.toNat n.toNat (M.putR n a kb b 0 n.toNat (List.replicate (M.w64 (n * 5)).toNat 0)) then (bif M.okCq n ka a kb 5 b (M.rowsL n ka a) (M.rowsL kb 5 b) 2 (2 * n.toNat) n.toNat n.toNat (M.putR n a kb b 1 n.toNat (M.putR n a kb b 0 n.toNat (List.replicate (M.w64 (n * 5)).toNat 0))) then (bif M.okCq n ka a kb 5 b (M.rowsL n ka a) (M.rowsL kb 5 b) 3 (3 * n.toNat) n.toNat n.toNat (M.putR n a kb b 2 n.toNat (M.putR n a kb b 1 n.toNat (M.putR n a kb b 0 n.toNat (List.replicate (M.w64 (n * 5)).toNat 0)))) then (bif M.okCq n ka a kb 5 b (M.rowsL n ka a) (M.rowsL kb 5 b) 4 (4 * n.toNat) n.toNat n.toNat (M.putR n a kb b 3 n.toNat (M.putR n a kb b 2 n.toNat (M.putR n a kb b 1 n.toNat (M.putR n a kb b 0 n.toNat (List.replicate (M.w64 (n * 5)).toNat 0))))) then some (.tuple [.agg [.int .i64 n, .int .i64 5, .vi .i64 (((M.putR n a kb b 4 n.toNat (M.putR n a kb b 3 n.toNat (M.putR n a kb b 2 n.toNat (M.putR n a kb b 1 n.toNat (M.putR n a kb b 0 n.toNat (List.replicate (M.w64 (n * 5)).toNat 0)))))).drop 0).take (M.w64 (n * 5)).toNat)], .int .i64 0], [], 0) else none) else none) else none) else none) else none) else none) else none) else none) else none)) else none) else some (.tuple [.agg [.int .i64 0, .int .i64 0, .nilsl], .int .i64 1], [], 0)) else none) by kernel_rfl).trans ?_) rfl
      rw [hc1, hc2, hm, hv, show (kb != ka) = false by simp [hcn], hw, decide_eq_true a0, decide_eq_true (Int.le_refl _), decide_eq_true (by omega : n * 5 ≤ 4294967296), hR1, hR2, hTb, hz]
      have q0 := hQ 0 (by omega)
      have p0 := hP 0 (by omega)
      have q1 := hQ 1 (by omega)
      have p1 := hP 1 (by omega)
      have q2 := hQ 2 (by omega)
      have p2 := hP 2 (by omega)
      have q3 := hQ 3 (by omega)
      have p3 := hP 3 (by omega)
      have q4 := hQ 4 (by omega)
      have p4 := hP 4 (by omega)
      rw [show M.okCq n ka a kb 5 b (M.rowsL n ka a) (M.rowsL kb 5 b) 0 (0 * n.toNat) n.toNat n.toNat (M.part n a kb 5 b 0) = true from q0, p0]
      rw [show M.okCq n ka a kb 5 b (M.rowsL n ka a) (M.rowsL kb 5 b) 1 (1 * n.toNat) n.toNat n.toNat (M.part n a kb 5 b 1) = true from q1, p1]
      rw [show M.okCq n ka a kb 5 b (M.rowsL n ka a) (M.rowsL kb 5 b) 2 (2 * n.toNat) n.toNat n.toNat (M.part n a kb 5 b 2) = true from q2, p2]
      rw [show M.okCq n ka a kb 5 b (M.rowsL n ka a) (M.rowsL kb 5 b) 3 (3 * n.toNat) n.toNat n.toNat (M.part n a kb 5 b 3) = true from q3, p3]
      rw [show M.okCq n ka a kb 5 b (M.rowsL n ka a) (M.rowsL kb 5 b) 4 (4 * n.toNat) n.toNat n.toNat (M.part n a kb 5 b 4) = true from q4, p4]
      have e : (((M.part n a kb 5 b (5 : Int).toNat).drop 0).take (n * 5).toNat) = M.mulD n a kb b (5 : Int).toNat := by rw [List.drop_zero, List.take_of_length_le (by omega), hEnd]
      exact congrArg (fun z => some (AV.tuple [.agg [.int .i64 n, .int .i64 5, .vi .i64 z], .int .i64 0], ([] : Upd), 0)) e
    · refine pure_of_callB (m := 20) (inls_ok q4_ok 20 2) noCall_ok (u := []) (nx := 0) ((show callB (q4.inls 20 2) noCall 20 30 [.agg [.int .i64 n, .int .i64 ka, .vi .i64 a], .agg [.int .i64 kb, .int .i64 6, .vi .i64 b]] [] 0 = (bif decide (a.length < 4294967296) && true then (bif !!M.mtxV n ka a then (bif decide (b.length < 4294967296) && true then (bif !M.mtxV kb 6 b then some (.tuple [.agg [.int .i64 0, .int .i64 0, .nilsl], .int .i64 1], [], 0) else bif kb != ka then some (.tuple [.agg [.int .i64 0, .int .i64 0, .nilsl], .int .i64 11], [], 0) else (bif decide (0 ≤ M.w64 (n * 6)) && decide (M.w64 (n * 6) ≤ M.w64 (n * 6)) && decide (M.w64 (n * 6) ≤ 4294967296) && true then (bif M.okRw n ka a && true then (bif M.okRw kb 6 b && true then (bif M.okTb n 6 (M.w64 (n * 6)).toNat && true then (bif M.okCq n ka a kb 6 b (M.rowsL n ka a) (M.rowsL kb 6 b) 0 (0 * n.toNat) n.toNat n.toNat (List.replicate (M.w64 (n * 6)).toNat 0) then (bif M.okCq n ka a kb 6 b (M.rowsL n ka a) (M.rowsL kb 6 b) 1 (1 * n.toNat) n.toNat n.toNat (M.putR n a kb b 0 n.toNat (List.replicate (M.w64 (n * 6)).toNat 0)) then (bif M.okCq n ka a kb 6 b (M.rowsL n ka a) (M.rowsL kb 6 b) 2 (2 * n.toNat) n.toNat n.toNat (M.putR n a kb b 1 n.toNat (M.putR n a kb b 0 n.toNat (List.replicate (M.w64 (n * 6)).toNat 0))) then (bif M.okCq n ka a kb 6 b (M.rowsL n ka a) (M.rowsL kb 6 b) 3 (3 * n.toNat) n.toNat n.toNat (M.putR n a kb b 2 n.toNat (M.putR n a kb b 1 n.toNat (M.putR n a kb b 0 n.toNat (List.replicate (M.w64 (n * 6)).toNat 0)))) then (bif M.okCq n ka a kb 6 b (M.rowsL n ka a) (M.rowsL kb 6 b) 4 (4 * n.toNat) n.toNat n.toNat (M.putR n a kb b 3 n.toNat (M.putR n a kb b 2 n.toNat (M.putR n a kb b 1 n.toNat (M.putR n a kb b 0 n.toNat (List.replicate (M.w64 (n * 6)).toNat 0))))) then (bif M.okCq n ka a kb 6 b (M.rowsL n ka a) (M.rowsL kb 6 b) 5 (5 * n.toNat) n.toNat n.toNat (M.putR n a kb b 4 n.toNat (M.putR n a kb b 3 n.toNat (M.putR n a kb b 2 n.toNat (M.putR n a kb b 1 n.toNat (M.putR n a kb b 0 n.toNat (List.replicate (M.w64 (n * 6)).toNat 0)))))) then some (.tuple [.agg [.int .i64 n, .int .i64 6, .vi .i64 (((M.putR n a kb b 5 n.toNat (M.putR n a kb b 4 n.toNat (M.putR n a kb b 3 n.toNat (M.putR n a kb b 2 n.toNat (M.putR n a kb b 1 n.toNat (M.putR n a kb b 0 n.toNat (List.replicate (M.w64 (n * 6)).toNat 0))))))).drop 0).take (M.w64 (n * 6)).toNat)], .int .i64 0], [], 0) else none) else none) else none) else none) else none) else none) else none) else none) else none) else none)) else none) else some (.tuple [.agg [.int .i64 0, .int .i64 0, .nilsl], .int .i64 1], [], 0)) else none) by kernel_rfl).trans ?_) rfl
      rw [hc1, hc2, hm, hv, show (kb != ka) = false by simp [hcn], hw, decide_eq_true a0, decide_eq_true (Int.le_refl _), decide_eq_true (by omega : n * 6 ≤ 4294967296), hR1, hR2, hTb, hz]
      have q0 := hQ 0 (by omega)
      have p0 := hP 0 (by omega)
      have q1 := hQ 1 (by omega)
      have p1 := hP 1 (by omega)
      have q2 := hQ 2 (by omega)
      have p2 := hP 2 (by omega)
      have q3 := hQ 3 (by omega)
      have p3 := hP 3 (by omega)
      have q4 := hQ 4 (by omega)
      have p4 := hP 4 (by omega)
      have q5 := hQ 5 (by omega)
      have p5 := hP 5 (by omega)
      rw [show M.okCq n ka a kb 6 b (M.rowsL n ka a) (M.rowsL kb 6 b) 0 (0 * n.toNat) n.toNat n.toNat (M.part n a kb 6 b 0) = true from q0, p0]
      rw [show M.okCq n ka a kb 6 b (M.rowsL n ka a) (M.rowsL kb 6 b) 1 (1 * n.toNat) n.toNat n.toNat (M.part n a kb 6 b 1) = true from q1, p1]
      rw [show M.okCq n ka a kb 6 b (M.rowsL n ka a) (M.rowsL kb 6 b) 2 (2 * n.toNat) n.toNat n.toNat (M.part n a kb 6 b 2) = true from q2, p2]
      rw [show M.okCq n ka a kb 6 b (M.rowsL n ka a) (M.rowsL kb 6 b) 3 (3 * n.toNat) n.toNat n.toNat (M.part n a kb 6 b 3) = true from q3, p3]
      rw [show M.okCq n ka a kb 6 b (M.rowsL n ka a) (M.rowsL kb 6 b) 4 (4 * n.toNat) n.toNat n.toNat (M.part n a kb 6 b 4) = true from q4, p4]
      rw [show M.okCq n ka a kb 6 b (M.rowsL n ka a) (M.rowsL kb 6 b) 5 (5 * n.toNat) n.toNat n.toNat (M.part n a kb 6 b 5) = true from q5, p5]
      have e : (((M.part n a kb 6 b (6 : Int).toNat).drop 0).take (n * 6).toNat) = M.mulD n a kb b (6 : Int).toNat := by rw [List.drop_zero, List.take_of_length_le (by omega), hEnd]
      exact congrArg (fun z => some (AV.tuple [.agg [.int .i64 n, .int .i64 6, .vi .i64 z], .int .i64 0], ([] : Upd), 0)) e
    · refine pure_of_callB (m := 20) (inls_ok q4_ok 20 2) noCall_ok (u := []) (nx := 0) ((show callB (q4.inls 20 2) noCall 20 30 [.agg [.int .i64 n, .int .i64 ka, .vi .i64 a], .agg [.int .i64 kb, .int .i64 7, .vi .i64 b]] [] 0 = (bif decide (a.length < 4294967296) && true then (bif !!M.mtxV n ka a then (bif decide (b.length < 4294967296) && true then (bif !M.mtxV kb 7 b then some (.tuple [.agg [.int .i64 0, .int .i64 0, .nilsl], .int .i64 1], [], 0) else bif kb != ka then some (.tuple [.agg [.int .i64 0, .int .i64 0, .nilsl], .int .i64 11], [], 0) else (bif decide (0 ≤ M.w64 (n * 7)) && decide (M.w64 (n * 7) ≤ M.w64 (n * 7)) && decide (M.w64 (n * 7) ≤ 4294967296) && true then (bif M.okRw n ka a && true then (bif M.okRw kb 7 b && true then (bif M.okTb n 7 (M.w64 (n * 7)).toNat && true then (bif M.okCq n ka a kb 7 b (M.rowsL n ka a) (M.rowsL kb 7 b) 0 (0 * n.toNat) n.toNat n.toNat (List.replicate (M.w64 (n * 7)).toNat 0) then (bif M.okCq n ka a kb 7 b (M.rowsL n ka a) (M.rowsL kb 7 b) 1 (1 * n.toNat) n.toNat n.toNat (M.putR n a kb b 0 n.toNat (List.replicate (M.w64 (n * 7)).toNat 0)) then (bif M.okCq n ka a kb 7 b (M.rowsL n ka a) (M.rowsL kb 7 b) 2 (2 * n.toNat) n.toNat n.toNat (M.putR n a kb b 1 n.toNat (M.putR n a kb b 0 n.toNat (List.replicate (M.w64 (n * 7)).toNat 0))) then (bif M.okCq n ka a kb 7 b (M.rowsL n ka a) (M.rowsL kb 7 b) 3 (3 * n.toNat) n.toNat n.toNat (M.putR n a kb b 2 n.toNat (M.putR n a kb b 1 n.toNat (M.putR n a kb b 0 n.toNat (List.replicate (M.w64 (n * 7)).toNat 0)))) then (bif M.okCq n ka a kb 7 b (M.rowsL n ka a) (M.rowsL kb 7 b) 4 (4 * n.toNat) n.toNat n.toNat (M.putR n a kb b 3 n.toNat (M.putR n a kb b 2 n.toNat (M.putR n a kb b 1 n.toNat (M.putR n a kb b 0 n.toNat (List.replicate (M.w64 (n * 7)).toNat 0))))) then (bif M.okCq n ka a kb 7 b (M.rowsL n ka a) (M.rowsL kb 7 b) 5 (5 * n.toNat) n.toNat n.toNat (M.putR n a kb b 4 n.toNat (M.putR n a kb b 3 n.toNat (M.putR n a kb b 2 n.toNat (M.putR n a kb b 1 n.toNat (M.putR n a kb b 0 n.toNat (List.replicate (M.w64 (n * 7)).toNat 0)))))) then (bif M.okCq n ka a kb 7 b (M.rowsL n ka a) (M.rowsL kb 7 b) 6 (6 * n.toNat) n.toNat n.toNat (M.putR n a kb b 5 n.toNat (M.putR n a kb b 4 n.toNat (M.putR n a kb b 3 n.toNat (M.putR n a kb b 2 n.toNat (M.putR n a kb b 1 n.toNat (M.putR n a kb b 0 n.toNat (List.replicate (M.w64 (n * 7)).toNat 0))))))) then some (.tuple [.agg [.int .i64 n, .int .i64 7, .vi .i64 (((M.putR n a kb b 6 n.toNat (M.putR n a kb b 5 n.toNat (M.putR n a kb b 4 n.toNat (M.putR n a kb b 3 n.toNat (M.putR n a kb b 2 n.toNat (M.putR n a kb b 1 n.toNat (M.putR n a kb b 0 n.toNat (List.replicate (M.w64 (n * 7)).toNat 0)))))))).drop 0).take (M.w64 (n * 7)).toNat)], .int .i64 0], [], 0) else none) else none) else none) else none) else none) else none) else none) else none) else none) else none) else none)) else none) else some (.tuple [.agg [.int .i64 0, .int .i64 0, .nilsl], .int .i64 1], [], 0)) else none) by kernel_rfl).trans ?_) rfl
      rw [hc1, hc2, hm, hv, show (kb != ka) = false by simp [hcn], hw, decide_eq_true a0, decide_eq_true (Int.le_refl _), decide_eq_true (by omega : n * 7 ≤ 4294967296), hR1, hR2, hTb, hz]
      have q0 := hQ 0 (by omega)
      have p0 := hP 0 (by omega)
      have q1 := hQ 1 (by omega)
      have p1 := hP 1 (by omega)
      have q2 := hQ 2 (by omega)
      have p2 := hP 2 (by omega)
      have q3 := hQ 3 (by omega)
      have p3 := hP 3 (by omega)
      have q4 := hQ 4 (by omega)
      have p4 := hP 4 (by omega)
      have q5 := hQ 5 (by omega)
      have p5 := hP 5 (by omega)
      have q6 := hQ 6 (by omega)
      have p6 := hP 6 (by omega)
      rw [show M.okCq n ka a kb 7 b (M.rowsL n ka a) (M.rowsL kb 7 b) 0 (0 * n.toNat) n.toNat n.toNat (M.part n a kb 7 b 0) = true from q0, p0]
      rw [show M.okCq n ka a kb 7 b (M.rowsL n ka a) (M.rowsL kb 7 b) 1 (1 * n.toNat) n.toNat n.toNat (M.part n a kb 7 b 1) = true from q1, p1]
      rw [show M.okCq n ka a kb 7 b (M.rowsL n ka a) (M.rowsL kb 7 b) 2 (2 * n.toNat) n.toNat n.toNat (M.part n a kb 7 b 2) = true from q2, p2]
      rw [show M.okCq n ka a kb 7 b (M.rowsL n ka a) (M.rowsL kb 7 b) 3 (3 * n.toNat) n.toNat n.toNat (M.part n a kb 7 b 3) = true from q3, p3]
      rw [show M.okCq n ka a kb 7 b (M.rowsL n ka a) (M.rowsL kb 7 b) 4 (4 * n.toNat) n.toNat n.toNat (M.part n a kb 7 b 4) = true from q4, p4]
      rw [show M.okCq n ka a kb 7 b (M.rowsL n ka a) (M.rowsL kb 7 b) 5 (5 * n.toNat) n.toNat n.toNat (M.part n a kb 7 b 5) = true from q5, p5]
      rw [show M.okCq n ka a kb 7 b (M.rowsL n ka a) (M.rowsL kb 7 b) 6 (6 * n.toNat) n.toNat n.toNat (M.part n a kb 7 b 6) = true from q6, p6]
      have e : (((M.part n a kb 7 b (7 : Int).toNat).drop 0).take (n * 7).toNat) = M.mulD n a kb b (7 : Int).toNat := by rw [List.drop_zero, List.take_of_length_le (by omega), hEnd]
      exact congrArg (fun z => some (AV.tuple [.agg [.int .i64 n, .int .i64 7, .vi .i64 z], .int .i64 0], ([] : Upd), 0)) e
    · refine pure_of_callB (m := 20) (inls_ok q4_ok 20 2) noCall_ok (u := []) (nx := 0) ((show callB (q4.inls 20 2) noCall 20 30 [.agg [.int .i64 n, .int .i64 ka, .vi .i64 a], .agg [.int .i64 kb, .int .i64 8, .vi .i64 b]] [] 0 = (bif decide (a.length < 4294967296) && true then (bif !!M.mtxV n ka a then (bif decide (b.length < 4294967296) && true then (bif !M.mtxV kb 8 b then some (.tuple [.agg [.int .i64 0, .int .i64 0, .nilsl], .int .i64 1], [], 0) else bif kb != ka then some (.tuple [.agg [.int .i64 0, .int .i64 0, .nilsl], .int .i64 11], [], 0) else (bif decide (0 ≤ M.w64 (n * 8)) && decide (M.w64 (n * 8) ≤ M.w64 (n * 8)) && decide (M.w64 (n * 8) ≤ 4294967296) && true then (bif M.okRw n ka a && true then (bif M.okRw kb 8 b && true then (bif M.okTb n 8 (M.w64 (n * 8)).toNat && true then (bif M.okCq n ka a kb 8 b (M.rowsL n ka a) (M.rowsL kb 8 b) 0 (0 * n.toNat) n.toNat n.toNat (List.replicate (M.w64 (n * 8)).toNat 0) then (bif M.okCq n ka a kb 8 b (M.rowsL n ka a) (M.rowsL kb 8 b) 1 (1 * n.toNat) n.toNat n.toNat (M.putR n a kb b 0 n.toNat (List.replicate (M.w64 (n * 8)).toNat 0)) then (bif M.okCq n ka a kb 8 b (M.rowsL n ka a) (M.rowsL kb 8 b) 2 (2 * n.toNat) n.toNat n.toNat (M.putR n a kb b 1 n.toNat (M.putR n a kb b 0 n.toNat (List.replicate (M.w64 (n * 8)).toNat 0))) then (bif M.okCq n ka a kb 8 b (M.rowsL n ka a) (M.rowsL kb 8 b) 3 (3 * n.toNat) n.toNat n.toNat (M.putR n a kb b 2 n.toNat (M.putR n a kb b 1 n.toNat (M.putR n a kb b 0 n.toNat (List.replicate (M.w64 (n * 8)).toNat 0)))) then (bif M.okCq n ka a kb 8 b (M.rowsL n ka a) (M.rowsL kb 8 b) 4 (4 * n.toNat) n.toNat n.toNat (M.putR n a kb b 3 n.toNat (M.putR n a kb b 2 n.toNat (M.putR n a kb b 1 n.toNat (M.putR n a kb b 0 n.toNat (List.replicate (M.w64 (n * 8)).toNat 0))))) then (bif M.okCq n ka a kb 8 b (M.rowsL n ka a) (M.rowsL kb 8 b) 5 (5 * n.toNat) n.toNat n.toNat (M.putR n a kb b 4 n.toNat (M.putR n a kb b 3 n.toNat (M.putR n a kb b 2 n.toNat (M.putR n a kb b 1 n.toNat (M.putR n a kb b 0 n.toNat (List.replicate (M.w64 (n * 8)).toNat 0)))))) then (bif M.okCq n ka a kb 8 b (M.rowsL n ka a) (M.rowsL kb 8 b) 6 (6 * n.toNat) n.toNat n.toNat (M.putR n a kb b 5 n.toNat (M.putR n a kb b 4 n.toNat (M.putR n a kb b 3 n.toNat (M.putR n a kb b 2 n.toNat (M.putR n a kb b 1 n.toNat (M.putR n a kb b 0 n.toNat (List.replicate (M.w64 (n * 8)).toNat 0))))))) then (bif M.okCq n ka a kb 8 b (M.rowsL n ka a) (M.rowsL kb 8 b) 7 (7 * n.toNat) n.toNat n.toNat (M.putR n a kb b 6 n.toNat (M.putR n a kb b 5 n.toNat (M.putR n a kb b 4 n.toNat (M.putR n a kb b 3 n.toNat (M.putR n a kb b 2 n.toNat (M.putR n a kb b 1 n.toNat (M.putR n a kb b 0 n.toNat (List.replicate (M.w64 (n * 8)).toNat 0)))))))) then some (.tuple [.agg [.int .i64 n, .int .i64 8, .vi .i64 (((M.putR n a kb b 7 n.toNat (M.putR n a kb b 6 n.toNat (M.putR n a kb b 5 n.toNat (M.putR n a kb b 4 n.toNat (M.putR n a kb b 3 n.toNat (M.putR n a kb b 2 n.toNat (M.putR n a kb b 1 n.toNat (M.putR n a kb b 0 n.toNat (List.replicate (M.w64 (n * 8)).toNat 0))))))))).drop 0).take (M.w64 (n * 8)).toNat)], .int .i64 0], [], 0) else none) else none) else none) else none) else none) else none) else none) else none) else none) else none) else none) else none)) else none) else some (.tuple [.agg [.int .i64 0, .int .i64 0, .nilsl], .int .i64 1], [], 0)) else none) by kernel_rfl).trans ?_) rfl
      rw [hc1, hc2, hm, hv, show (kb != ka) = false by simp [hcn], hw, decide_eq_true a0, decide_eq_true (Int.le_refl _), decide_eq_true (by omega : n * 8 ≤ 4294967296), hR1, hR2, hTb, hz]
      have q0 := hQ 0 (by omega)
      have p0 := hP 0 (by omega)
      have q1 := hQ 1 (by omega)
      have p1 := hP 1 (by omega)
      have q2 := hQ 2 (by omega)
      have p2 := hP 2 (by omega)
      have q3 := hQ 3 (by omega)
      have p3 := hP 3 (by omega)
      have q4 := hQ 4 (by omega)
      have p4 := hP 4 (by omega)
      have q5 := hQ 5 (by omega)
      have p5 := hP 5 (by omega)
      have q6 := hQ 6 (by omega)
      have p6 := hP 6 (by omega)
      have q7 := hQ 7 (by omega)
      have p7 := hP 7 (by omega)
      rw [show M.okCq n ka a kb 8 b (M.rowsL n ka a) (M.rowsL kb 8 b) 0 (0 * n.toNat) n.toNat n.toNat (M.part n a kb 8 b 0) = true from q0, p0]
      rw [show M.okCq n ka a kb 8 b (M.rowsL n ka a) (M.rowsL kb 8 b) 1 (1 * n.toNat) n.toNat n.toNat (M.part n a kb 8 b 1) = true from q1, p1]
      rw [show M.okCq n ka a kb 8 b (M.rowsL n ka a) (M.rowsL kb 8 b) 2 (2 * n.toNat) n.toNat n.toNat (M.part n a kb 8 b 2) = true from q2, p2]
      rw [show M.okCq n ka a kb 8 b (M.rowsL n ka a) (M.rowsL kb 8 b) 3 (3 * n.toNat) n.toNat n.toNat (M.part n a kb 8 b 3) = true from q3, p3]
      rw [show M.okCq n ka a kb 8 b (M.rowsL n ka a) (M.rowsL kb 8 b) 4 (4 * n.toNat) n.toNat n.toNat (M.part n a kb 8 b 4) = true from q4, p4]
      rw [show M.okCq n ka a kb 8 b (M.rowsL n ka a) (M.rowsL kb 8 b) 5 (5 * n.toNat) n.toNat n.toNat (M.part n a kb 8 b 5) = true from q5, p5]
      rw [show M.okCq n ka a kb 8 b (M.rowsL n ka a) (M.rowsL kb 8 b) 6 (6 * n.toNat) n.toNat n.toNat (M.part n a kb 8 b 6) = true from q6, p6]
      rw [show M.okCq n ka a kb 8 b (M.rowsL n ka a) (M.rowsL kb 8 b) 7 (7 * n.toNat) n.toNat n.toNat (M.part n a kb 8 b 7) = true from q7, p7]
      have e : (((M.part n a kb 8 b (8 : Int).toNat).drop 0).take (n * 8).toNat) = M.mulD n a kb b (8 : Int).toNat := by rw [List.drop_zero, List.take_of_length_le (by omega), hEnd]
      exact congrArg (fun z => some (AV.tuple [.agg [.int .i64 n, .int .i64 8, .vi .i64 z], .int .i64 0], ([] : Upd), 0)) e
  by_cases hall : M.mtxV n ka a = true ∧ M.mtxV kb m b = true ∧ kb = ka
  · exact (key hall.1 hall.2.1 hall.2.2).resolve_left id
  · refine Ev.pure (m := 0) q4_ok noCall_ok (as' := [.agg [.int .i64 n, .int .i64 ka, .vi .i64 a], .agg [.int .i64 kb, .int .i64 m, .vi .i64 b]]) ?_ (.refl _)
    rw [show callB q4 noCall 0 30 [.agg [.int .i64 n, .int .i64 ka, .vi .i64 a], .agg [.int .i64 kb, .int .i64 m, .vi .i64 b]] [] 0 = (bif decide (a.length < 4294967296) && true then (bif !!M.mtxV n ka a then (bif decide (b.length < 4294967296) && true then (bif !M.mtxV kb m b then some (.tuple [.agg [.int .i64 0, .int .i64 0, .nilsl], .int .i64 1], [], 0) else bif kb != ka then some (.tuple [.agg [.int .i64 0, .int .i64 0, .nilsl], .int .i64 11], [], 0) else none) else none) else some (.tuple [.agg [.int .i64 0, .int .i64 0, .nilsl], .int .i64 1], [], 0)) else none) by kernel_rfl, hc1, hc2]
    unfold M.mulI M.mulO M.mulC M.mulE
    cases hm : M.mtxV n ka a with
    | false => exact ⟨_, [], 0, rfl, rfl, .tuple (.cons (.agg (.cons (.refl _) (.cons (.refl _) (.cons (.nil _) (.refl _))))) (.refl _))⟩
    | true =>
    cases hv : M.mtxV kb m b with
    | false => exact ⟨_, [], 0, rfl, rfl, .tuple (.cons (.agg (.cons (.refl _) (.cons (.refl _) (.cons (.nil _) (.refl _))))) (.refl _))⟩
    | true =>
    have hcn : ¬ kb = ka := fun h => hall ⟨hm, hv, h⟩
    rw [show (kb != ka) = true by simpa using hcn]
    exact ⟨_, [], 0, rfl, rfl, .tuple (.cons (.agg (.cons (.refl _) (.cons (.refl _) (.cons (.nil _) (.refl _))))) (.refl _))⟩
def m_Mul : List AV → Option (Bool × AV)
  | [.agg [.int .i64 n, .int .i64 ka, a_], .agg [.int .i64 kb, .int .i64 m, b_]] => (asVi .i64 a_).bind fun a => (asVi .i64 b_).bind fun b => some ((decide (a.length < 4294967296) && decide (b.length < 4294967296)), .tuple [.agg [.int .i64 (M.mulI n ka a kb m b), .int .i64 (M.mulO n ka a kb m b), .vi .i64 (M.mulC n ka a kb m b)], .int .i64 (M.mulE n ka a kb m b)])
  | _ => none
noncomputable def q5 : Cfg := q4.add 30 m_Mul
theorem q5_ok : CfgOK q5 := add_ok q4_ok fun xs v h => by
  unfold m_Mul at h; split at h
  · obtain ⟨a, h_a, h⟩ := Option.bind_eq_some_iff.1 h
    obtain ⟨b, h_b, h⟩ := Option.bind_eq_some_iff.1 h
    simp only [Option.some.injEq, Prod.mk.injEq] at h; obtain ⟨h1, rfl⟩ := h
    exact PureOK.weak (p_Mul _ _ a _ _ b h1) (.cons (.agg (.cons (.refl _) (.cons (.refl _) (.cons (asVi_le h_a) (.refl _))))) (.cons (.agg (.cons (.refl _) (.cons (.refl _) (.cons (asVi_le h_b) (.refl _))))) (.refl _))) (Le2.refl _)
  · cases h

end Go.Proofs.Ytplcpdjabjjfiaa
