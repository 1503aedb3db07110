/- Matrices, plain laws: products with the identity. -/
import Derived.Test.YtplcpdjabjjfiaaMaI
import Derived.Test.YtplcpdjabjjfiaaMaP
namespace Go.Proofs.Ytplcpdjabjjfiaa
open Am
set_option maxRecDepth 100000
set_option linter.unusedVariables false
set_option linter.unusedSimpArgs false

theorem clampC_id {x : Int} (h : M.inC x = true) : M.clampC x = x := by
  obtain ⟨h1, h2⟩ := inC_iff h
  unfold M.clampC
  rw [show (if x < 131072 then x else 131072) = x by split <;> omega]
  split <;> omega
/-- a coefficient of a product -/
theorem mulD_at {n m : Nat} {a : List Int} {kb : Int} {b : List Int} {r c : Nat} (hr : r < m) (hc : c < n) : (M.mulD n a kb b m).getD (r * n + c) 0 = M.mulV n a kb b r c := by
  unfold M.mulD
  rw [flatI_get m (fun i hi => by rw [mulF_length]; rfl) r c hr (by exact hc)]
  unfold M.mulF
  exact map_getD (f := fun c => M.mulV n a kb b r c) hc
theorem mulV_pick {n kb : Nat} {a b : List Int} {r c j : Nat} {x : Int} (hj : j < kb) (h1 : M.mpr n a kb b r c j = 32768 * x) (h0 : ∀ i, i < kb → i ≠ j → M.mpr n a kb b r c i = 0) (hx : M.inC x = true) : M.mulV n a kb b r c = x := by
  unfold M.mulV
  rw [Int.toNat_natCast, dotZ_pick (j := j) kb hj h0, h1, round_one]
  exact clampC_id hx
theorem mul_id_left {n m : Nat} {l : List Int} (n1 : 1 ≤ n) (n2 : n ≤ 8) (hl : l.length = n * m) (hin : l.all M.inC = true) : M.mulD n (M.idD n) n l m = l := by
  refine ext_getD (by rw [mulD_length, hl, Int.toNat_natCast, Nat.mul_comm]) fun k hk => ?_
  rw [mulD_length, Int.toNat_natCast] at hk
  obtain ⟨a, b, c⟩ := split_at hk
  have hlt : k / n * n + k % n < l.length := by rw [← c, hl, Nat.mul_comm]; exact hk
  rw [c, mulD_at a b]
  refine mulV_pick (j := k % n) b ?_ (fun i hi hn => ?_) (all_getD hin hlt)
  · unfold M.mpr
    rw [Int.toNat_natCast, idD_at n1 n2 b b, if_pos rfl, Int.mul_comm]
  · unfold M.mpr
    rw [Int.toNat_natCast, idD_at n1 n2 hi b, if_neg (by omega), Int.mul_zero]
theorem mul_id_right {n m : Nat} {l : List Int} (m1 : 1 ≤ m) (m2 : m ≤ 8) (hl : l.length = n * m) (hin : l.all M.inC = true) : M.mulD n l m (M.idD m) m = l := by
  refine ext_getD (by rw [mulD_length, hl, Int.toNat_natCast, Nat.mul_comm]) fun k hk => ?_
  rw [mulD_length, Int.toNat_natCast] at hk
  obtain ⟨a, b, c⟩ := split_at hk
  have hlt : k / n * n + k % n < l.length := by rw [← c, hl, Nat.mul_comm]; exact hk
  rw [c, mulD_at a b]
  refine mulV_pick (j := k / n) a ?_ (fun i hi hn => ?_) (all_getD hin hlt)
  · unfold M.mpr
    rw [Int.toNat_natCast, Int.toNat_natCast, idD_at m1 m2 a a, if_pos rfl]
  · unfold M.mpr
    rw [Int.toNat_natCast, Int.toNat_natCast, idD_at m1 m2 a hi, if_neg hn, Int.zero_mul]
end Go.Proofs.Ytplcpdjabjjfiaa
