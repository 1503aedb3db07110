/- The models of matrices: products, the reference. -/
import Derived.Test.YtplcpdjabjjfiaaMaK
namespace Go.Proofs.Ytplcpdjabjjfiaa
open Am
set_option maxRecDepth 100000
set_option linter.unusedVariables false
set_option linter.unusedSimpArgs false

namespace M
def mulE (n ka : Int) (a : List Int) (kb m : Int) (b : List Int) : Int := bif !mtxV n ka a then 1 else bif !mtxV kb m b then 1 else bif kb != ka then 11 else 0
def clampC (x : Int) : Int := if (if x < 131072 then x else 131072) > -131072 then (if x < 131072 then x else 131072) else -131072
def mpr (n : Int) (a : List Int) (kb : Int) (b : List Int) (r c : Nat) (i : Nat) : Int := b.getD (r * kb.toNat + i) 0 * a.getD (i * n.toNat + c) 0
def mulV (n : Int) (a : List Int) (kb : Int) (b : List Int) (r c : Nat) : Int := clampC ((dotZ kb.toNat (mpr n a kb b r c) + 16384).fdiv 32768)
def mulF (n : Int) (a : List Int) (kb : Int) (b : List Int) (r j : Nat) : List Int := (List.range j).map fun c => mulV n a kb b r c
def mulD (n : Int) (a : List Int) (kb : Int) (b : List Int) (j : Nat) : List Int := (List.range j).flatMap fun r => mulF n a kb b r n.toNat
def okMul (n ka : Int) (a : List Int) (kb m : Int) (b : List Int) : Bool := mtxV n ka a && mtxV kb m b && decide (kb = ka)
def okMulR (n ka : Int) (a : List Int) (kb m : Int) (b : List Int) (r : Int) : Bool := okMul n ka a kb m b && decide (0 ≤ r) && decide (r < m)
def okMulC (n ka : Int) (a : List Int) (kb m : Int) (b : List Int) (r c : Int) : Bool := okMulR n ka a kb m b r && decide (0 ≤ c) && decide (c < n)
end M
theorem mtx_iff {n m : Int} {co : List Int} (h : M.mtxV n m co = true) : 1 ≤ n ∧ n ≤ 8 ∧ 1 ≤ m ∧ m ≤ 8 ∧ (co.length : Int) = n * m ∧ co.all M.inC = true := by
  unfold M.mtxV at h
  simp only [Bool.and_eq_true, decide_eq_true_eq] at h
  exact ⟨h.1.1.1.1.1, h.1.1.1.1.2, h.1.1.1.2, h.1.1.2, h.1.2, h.2⟩
theorem okMul_iff {n ka : Int} {a : List Int} {kb m : Int} {b : List Int} (h : M.okMul n ka a kb m b = true) : (1 ≤ n ∧ n ≤ 8 ∧ 1 ≤ ka ∧ ka ≤ 8 ∧ (a.length : Int) = n * ka ∧ a.all M.inC = true) ∧ (1 ≤ kb ∧ kb ≤ 8 ∧ 1 ≤ m ∧ m ≤ 8 ∧ (b.length : Int) = kb * m ∧ b.all M.inC = true) ∧ kb = ka := by
  unfold M.okMul at h
  simp only [Bool.and_eq_true, decide_eq_true_eq] at h
  exact ⟨mtx_iff h.1.1, mtx_iff h.1.2, h.2⟩
theorem okMulC_iff {n ka : Int} {a : List Int} {kb m : Int} {b : List Int} {r c : Int} (h : M.okMulC n ka a kb m b r c = true) : M.okMul n ka a kb m b = true ∧ 0 ≤ r ∧ r < m ∧ 0 ≤ c ∧ c < n := by
  unfold M.okMulC M.okMulR at h
  simp only [Bool.and_eq_true, decide_eq_true_eq] at h
  exact ⟨h.1.1.1.1, h.1.1.1.2, h.1.1.2, h.1.2, h.2⟩
theorem cell_in {w h : Int} {L r c : Nat} (w1 : 1 ≤ w) (w2 : w ≤ 8) (h1 : h ≤ 8) (hL : (L : Int) = w * h) (hr : (r : Int) < h) (hc : (c : Int) < w) :
    M.w64 (M.w64 ((r : Int) * w) + c) = ((r * w.toNat + c : Nat) : Int) ∧ r * w.toNat + c < L := by
  obtain ⟨k, rfl⟩ := Int.eq_ofNat_of_zero_le (show 0 ≤ w by omega)
  have a1 : ((r + 1 : Nat) : Int) * k ≤ h * k := Int.mul_le_mul_of_nonneg_right (by omega) (by omega)
  have a2 : h * k ≤ 8 * 8 := Int.mul_le_mul (by omega) (by omega) (by omega) (by omega)
  have a3 : ((r + 1 : Nat) : Int) * k = (r : Int) * k + k := by rw [show ((r + 1 : Nat) : Int) = (r : Int) + 1 by omega, Int.add_mul, Int.one_mul]
  have a4 : 0 ≤ (r : Int) * k := Int.mul_nonneg (by omega) (by omega)
  have a5 : ((r * k : Nat) : Int) = (r : Int) * k := Int.natCast_mul r k
  rw [Int.mul_comm (k : Int) h] at hL
  rw [Int.toNat_natCast, w64_in (n := (r : Int) * k) (by omega) (by omega), w64_in (by omega) (by omega)]
  omega
theorem mpr_bound {n ka : Int} {a : List Int} {kb m : Int} {b : List Int} (h : M.okMul n ka a kb m b = true) {r c i : Nat} (hr : (r : Int) < m) (hc : (c : Int) < n) (hi : (i : Int) < kb) :
    -17179869184 ≤ M.mpr n a kb b r c i ∧ M.mpr n a kb b r c i ≤ 17179869184 := by
  obtain ⟨⟨n1, n2, k1, k2, hla, hca⟩, ⟨j1, j2, m1, m2, hlb, hcb⟩, rfl⟩ := okMul_iff h
  obtain ⟨x1, x2⟩ := inC_iff (all_getD hcb (cell_in j1 j2 m2 hlb hr hi).2)
  obtain ⟨y1, y2⟩ := inC_iff (all_getD hca (cell_in n1 n2 k2 hla hi hc).2)
  exact prod_bound (A := 131072) (B := 131072) x1 x2 y1 y2
theorem mdot_small {n ka : Int} {a : List Int} {kb m : Int} {b : List Int} (h : M.okMul n ka a kb m b = true) {r c i : Nat} (hr : (r : Int) < m) (hc : (c : Int) < n) (hi : (i : Int) ≤ kb) :
    -137438953472 ≤ M.dotZ i (M.mpr n a kb b r c) ∧ M.dotZ i (M.mpr n a kb b r c) ≤ 137438953472 := by
  have := dotZ_bound (B := 17179869184) (f := M.mpr n a kb b r c) i fun j hj => mpr_bound h hr hc (by omega)
  have hk := (okMul_iff h).2.1.2.1
  omega
theorem mulF_snoc (n : Int) (a : List Int) (kb : Int) (b : List Int) (r j : Nat) : M.mulF n a kb b r (j + 1) = M.mulF n a kb b r j ++ [M.mulV n a kb b r j] := by
  simp [M.mulF, List.range_succ]
theorem mulF_length (n : Int) (a : List Int) (kb : Int) (b : List Int) (r j : Nat) : (M.mulF n a kb b r j).length = j := by simp [M.mulF]
theorem mulD_snoc (n : Int) (a : List Int) (kb : Int) (b : List Int) (j : Nat) : M.mulD n a kb b (j + 1) = M.mulD n a kb b j ++ M.mulF n a kb b j n.toNat := by
  simp [M.mulD, List.range_succ]
theorem mulD_length (n : Int) (a : List Int) (kb : Int) (b : List Int) : ∀ j, (M.mulD n a kb b j).length = j * n.toNat
  | 0 => by simp [M.mulD]
  | j + 1 => by rw [mulD_snoc, List.length_append, mulD_length n a kb b j, mulF_length, Nat.add_mul, Nat.one_mul]
theorem mul_next {n ka : Int} {a : List Int} {kb m : Int} {b : List Int} {r c : Nat} (h : M.okMulC n ka a kb m b r c = true) (i : Nat) (hi : (i : Int) < kb) :
    (decide (0 ≤ M.w64 (M.w64 ((r : Int) * kb) + i)) && decide (M.w64 (M.w64 ((r : Int) * kb) + i) < b.length) && true) = true ∧ (decide (0 ≤ M.w64 (M.w64 ((i : Int) * n) + c)) && decide (M.w64 (M.w64 ((i : Int) * n) + c) < a.length) && true) = true ∧
    M.w64 (16384 + M.dotZ i (M.mpr n a kb b r c) + M.w64 (b.getD (M.w64 (M.w64 ((r : Int) * kb) + i)).toNat 0 * a.getD (M.w64 (M.w64 ((i : Int) * n) + c)).toNat 0)) = 16384 + M.dotZ (i + 1) (M.mpr n a kb b r c) := by
  obtain ⟨hk, r0, r1, c0, c1⟩ := okMulC_iff h
  obtain ⟨⟨n1, n2, k1, k2, hla, hca⟩, ⟨j1, j2, m1, m2, hlb, hcb⟩, rfl⟩ := okMul_iff hk
  obtain ⟨e1, e2⟩ := cell_in j1 j2 m2 hlb r1 hi
  obtain ⟨g1, g2⟩ := cell_in n1 n2 k2 hla hi c1
  rw [e1, g1, Int.toNat_natCast, Int.toNat_natCast]
  refine ⟨by rw [decide_eq_true (by omega), decide_eq_true (by omega)]; rfl, by rw [decide_eq_true (by omega), decide_eq_true (by omega)]; rfl, ?_⟩
  have b1 := mdot_small hk r1 c1 (i := i) (by omega)
  have b2 := mpr_bound hk r1 c1 hi
  show M.w64 (_ + M.w64 (M.mpr n a kb b r c i)) = _
  rw [w64_in (n := M.mpr n a kb b r c i) (by omega) (by omega), w64_in (by omega) (by omega), Int.add_assoc]
  rfl

def MR0 (n ka : Int) (a : List Int) (kb m : Int) (b : List Int) (n3 m3 : Int) (x : List Int) (r : Int) : St := ⟨[(2, .ptr 0 0 3), (3, .ptr 1 0 3), (4, .ptr 2 0 3), (5, .int .i64 0), (6, .ptr 3 0 3), (7, .int .i64 r)], [(3, .fix (.cells [.int .i64 n3, .int .i64 m3, .nilsl])), (2, .fix (.cells [.int .i64 0, .int .i64 0, .nilsl])), (1, .fix (.cells [.int .i64 kb, .int .i64 m, .vi .i64 b])), (0, .fix (.cells [.int .i64 n, .int .i64 ka, .vi .i64 a]))], 4⟩
def MR1 (n ka : Int) (a : List Int) (kb m : Int) (b : List Int) (n3 m3 : Int) (x : List Int) (r : Int) : St := ⟨[(2, .ptr 0 0 3), (3, .ptr 1 0 3), (4, .ptr 2 0 3), (5, .int .i64 0), (6, .ptr 3 0 3), (7, .int .i64 r)], [(4, .grow 1 0 (.ints .i64 x)), (3, .fix (.cells [.int .i64 n3, .int .i64 m3, .gsl 4 0])), (2, .fix (.cells [.int .i64 0, .int .i64 0, .nilsl])), (1, .fix (.cells [.int .i64 kb, .int .i64 m, .vi .i64 b])), (0, .fix (.cells [.int .i64 n, .int .i64 ka, .vi .i64 a]))], 5⟩
def MC0 (n ka : Int) (a : List Int) (kb m : Int) (b : List Int) (n3 m3 : Int) (x : List Int) (r c : Int) : St := ⟨[(2, .ptr 0 0 3), (3, .ptr 1 0 3), (4, .ptr 2 0 3), (5, .int .i64 0), (6, .ptr 3 0 3), (7, .int .i64 r), (8, .int .i64 c)], [(3, .fix (.cells [.int .i64 n3, .int .i64 m3, .nilsl])), (2, .fix (.cells [.int .i64 0, .int .i64 0, .nilsl])), (1, .fix (.cells [.int .i64 kb, .int .i64 m, .vi .i64 b])), (0, .fix (.cells [.int .i64 n, .int .i64 ka, .vi .i64 a]))], 4⟩
def MC1 (n ka : Int) (a : List Int) (kb m : Int) (b : List Int) (n3 m3 : Int) (x : List Int) (r c : Int) : St := ⟨[(2, .ptr 0 0 3), (3, .ptr 1 0 3), (4, .ptr 2 0 3), (5, .int .i64 0), (6, .ptr 3 0 3), (7, .int .i64 r), (8, .int .i64 c)], [(4, .grow 1 0 (.ints .i64 x)), (3, .fix (.cells [.int .i64 n3, .int .i64 m3, .gsl 4 0])), (2, .fix (.cells [.int .i64 0, .int .i64 0, .nilsl])), (1, .fix (.cells [.int .i64 kb, .int .i64 m, .vi .i64 b])), (0, .fix (.cells [.int .i64 n, .int .i64 ka, .vi .i64 a]))], 5⟩
def MK0 (n ka : Int) (a : List Int) (kb m : Int) (b : List Int) (n3 m3 : Int) (x : List Int) (r c s i : Int) : St := ⟨[(2, .ptr 0 0 3), (3, .ptr 1 0 3), (4, .ptr 2 0 3), (5, .int .i64 0), (6, .ptr 3 0 3), (7, .int .i64 r), (8, .int .i64 c), (9, .int .i64 s), (10, .int .i64 i)], [(3, .fix (.cells [.int .i64 n3, .int .i64 m3, .nilsl])), (2, .fix (.cells [.int .i64 0, .int .i64 0, .nilsl])), (1, .fix (.cells [.int .i64 kb, .int .i64 m, .vi .i64 b])), (0, .fix (.cells [.int .i64 n, .int .i64 ka, .vi .i64 a]))], 4⟩
def MK1 (n ka : Int) (a : List Int) (kb m : Int) (b : List Int) (n3 m3 : Int) (x : List Int) (r c s i : Int) : St := ⟨[(2, .ptr 0 0 3), (3, .ptr 1 0 3), (4, .ptr 2 0 3), (5, .int .i64 0), (6, .ptr 3 0 3), (7, .int .i64 r), (8, .int .i64 c), (9, .int .i64 s), (10, .int .i64 i)], [(4, .grow 1 0 (.ints .i64 x)), (3, .fix (.cells [.int .i64 n3, .int .i64 m3, .gsl 4 0])), (2, .fix (.cells [.int .i64 0, .int .i64 0, .nilsl])), (1, .fix (.cells [.int .i64 kb, .int .i64 m, .vi .i64 b])), (0, .fix (.cells [.int .i64 n, .int .i64 ka, .vi .i64 a]))], 5⟩
theorem MK0_step {R : Type} (n ka : Int) (a : List Int) (kb m : Int) (b : List Int) (n3 m3 : Int) (x : List Int) (r c s i : Int) (K : Kont R) : execK g7 31 0 (ntAt g7.P 31) noCall 0 none (bodyAt g7.P 31 4) (MK0 n ka a kb m b n3 m3 x r c s i) (kRes 0 (keep 31 4) K) = 
    (bif decide (i < kb) then (bif decide (0 ≤ M.w64 (M.w64 (r * kb) + i)) && decide (M.w64 (M.w64 (r * kb) + i) < b.length) && true then (bif decide (0 ≤ M.w64 (M.w64 (i * n) + c)) && decide (M.w64 (M.w64 (i * n) + c) < a.length) && true then K .normal (MK0 n ka a kb m b n3 m3 x r c (M.w64 (s + M.w64 (b.getD (M.w64 (M.w64 (r * kb) + i)).toNat 0 * a.getD (M.w64 (M.w64 (i * n) + c)).toNat 0))) (M.w64 (i + 1))) else none) else none) else K (.exit 4) (MK0 n ka a kb m b n3 m3 x r c s i)) := by kernel_rfl
theorem MK1_step {R : Type} (n ka : Int) (a : List Int) (kb m : Int) (b : List Int) (n3 m3 : Int) (x : List Int) (r c s i : Int) (K : Kont R) : execK g7 31 0 (ntAt g7.P 31) noCall 0 none (bodyAt g7.P 31 4) (MK1 n ka a kb m b n3 m3 x r c s i) (kRes 0 (keep 31 4) K) = 
    (bif decide (i < kb) then (bif decide (0 ≤ M.w64 (M.w64 (r * kb) + i)) && decide (M.w64 (M.w64 (r * kb) + i) < b.length) && true then (bif decide (0 ≤ M.w64 (M.w64 (i * n) + c)) && decide (M.w64 (M.w64 (i * n) + c) < a.length) && true then K .normal (MK1 n ka a kb m b n3 m3 x r c (M.w64 (s + M.w64 (b.getD (M.w64 (M.w64 (r * kb) + i)).toNat 0 * a.getD (M.w64 (M.w64 (i * n) + c)).toNat 0))) (M.w64 (i + 1))) else none) else none) else K (.exit 4) (MK1 n ka a kb m b n3 m3 x r c s i)) := by kernel_rfl
def l_MK : Nat → St → Option (List (Bool × Ex × St))
  | 0, ⟨[(2, .ptr 0 0 3), (3, .ptr 1 0 3), (4, .ptr 2 0 3), (5, .int .i64 0), (6, .ptr 3 0 3), (7, .int .i64 r), (8, .int .i64 c), (9, .int .i64 16384), (10, .int .i64 0)], [(3, .fix (.cells [.int .i64 n3, .int .i64 m3, .nilsl])), (2, .fix (.cells [.int .i64 0, .int .i64 0, .nilsl])), (1, .fix (.cells [.int .i64 kb, .int .i64 m, .vi .i64 b])), (0, .fix (.cells [.int .i64 n, .int .i64 ka, .vi .i64 a]))], 4⟩ => some [(M.okMulC n ka a kb m b r c, .exit 4, MK0 n ka a kb m b n3 m3 [] r c (16384 + M.dotZ kb.toNat (M.mpr n a kb b r.toNat c.toNat)) kb)]
  | 0, ⟨[(2, .ptr 0 0 3), (3, .ptr 1 0 3), (4, .ptr 2 0 3), (5, .int .i64 0), (6, .ptr 3 0 3), (7, .int .i64 r), (8, .int .i64 c), (9, .int .i64 16384), (10, .int .i64 0)], [(4, .grow 1 0 (.ints .i64 x)), (3, .fix (.cells [.int .i64 n3, .int .i64 m3, .gsl 4 0])), (2, .fix (.cells [.int .i64 0, .int .i64 0, .nilsl])), (1, .fix (.cells [.int .i64 kb, .int .i64 m, .vi .i64 b])), (0, .fix (.cells [.int .i64 n, .int .i64 ka, .vi .i64 a]))], 5⟩ => some [(M.okMulC n ka a kb m b r c, .exit 4, MK1 n ka a kb m b n3 m3 x r c (16384 + M.dotZ kb.toNat (M.mpr n a kb b r.toNat c.toNat)) kb)]
  | _, _ => none
noncomputable def p1 : Cfg := g7.addLL 31 4 l_MK
theorem p1_ok : CfgOK p1 := addLL_ok g7_ok (by kernel_rfl) fun lo st alts ex st' h hp => by
  unfold l_MK at h
  split at h
  · simp only [Option.some.injEq] at h
    subst h
    rename_i r c n3 m3 kb m b n ka a
    cases hk : M.okMulC n ka a kb m b r c with
    | false => rw [hk] at hp; cases hp
    | true =>
      rw [hk] at hp
      cases hp
      obtain ⟨hkk, r0, r1, c0, c1⟩ := okMulC_iff hk
      obtain ⟨⟨n1, n2, k1, k2, hla, hca⟩, ⟨j1, j2, m1, m2, hlb, hcb⟩, hkk2⟩ := okMul_iff hkk
      obtain ⟨r, rfl⟩ := Int.eq_ofNat_of_zero_le r0
      obtain ⟨c, rfl⟩ := Int.eq_ofNat_of_zero_le c0
      rw [Int.toNat_natCast, Int.toNat_natCast]
      refine loop_known (m := 0) (kp := keep 31 4) z1_ok noCall_ok ?_
      have main := loop_rule (lo := 0) (kp := keep 31 4) (b := execK g7 31 0 (ntAt g7.P 31) noCall 0 none (bodyAt g7.P 31 4)) (K := fun ex st => some (ex, st)) (fun i => MK0 n ka a kb m b n3 m3 [] r c (16384 + M.dotZ i (M.mpr n a kb b r c)) i) (fun i => i ≤ kb.toNat) (fun i => kb.toNat - i) (fun _ => (.exit 4, MK0 n ka a kb m b n3 m3 [] r c (16384 + M.dotZ kb.toNat (M.mpr n a kb b r c)) kb.toNat)) (fun i hi => ?_) 0 (Nat.zero_le _)
      · rw [show (kb.toNat : Int) = kb by omega] at main; exact main
      by_cases hlt : i < kb.toNat
      · refine .inl ⟨i + 1, hlt, by omega, rfl, fun K' => ?_⟩
        obtain ⟨q1, q2, q3⟩ := mul_next hk i (by omega)
        rw [MK0_step, decide_eq_true (by omega : (i : Int) < kb), q1, q2, q3, w64_in (n := (i : Int) + 1) (by omega) (by omega)]
        rfl
      · have : i = kb.toNat := by omega
        subst this
        refine .inr ⟨⟨4, .inl rfl⟩, fun K' => ?_⟩
        rw [MK0_step, decide_eq_false (by omega : ¬ (kb.toNat : Int) < kb)]
        rfl
  · simp only [Option.some.injEq] at h
    subst h
    rename_i r c x n3 m3 kb m b n ka a
    cases hk : M.okMulC n ka a kb m b r c with
    | false => rw [hk] at hp; cases hp
    | true =>
      rw [hk] at hp
      cases hp
      obtain ⟨hkk, r0, r1, c0, c1⟩ := okMulC_iff hk
      obtain ⟨⟨n1, n2, k1, k2, hla, hca⟩, ⟨j1, j2, m1, m2, hlb, hcb⟩, hkk2⟩ := okMul_iff hkk
      obtain ⟨r, rfl⟩ := Int.eq_ofNat_of_zero_le r0
      obtain ⟨c, rfl⟩ := Int.eq_ofNat_of_zero_le c0
      rw [Int.toNat_natCast, Int.toNat_natCast]
      refine loop_known (m := 0) (kp := keep 31 4) z1_ok noCall_ok ?_
      have main := loop_rule (lo := 0) (kp := keep 31 4) (b := execK g7 31 0 (ntAt g7.P 31) noCall 0 none (bodyAt g7.P 31 4)) (K := fun ex st => some (ex, st)) (fun i => MK1 n ka a kb m b n3 m3 x r c (16384 + M.dotZ i (M.mpr n a kb b r c)) i) (fun i => i ≤ kb.toNat) (fun i => kb.toNat - i) (fun _ => (.exit 4, MK1 n ka a kb m b n3 m3 x r c (16384 + M.dotZ kb.toNat (M.mpr n a kb b r c)) kb.toNat)) (fun i hi => ?_) 0 (Nat.zero_le _)
      · rw [show (kb.toNat : Int) = kb by omega] at main; exact main
      by_cases hlt : i < kb.toNat
      · refine .inl ⟨i + 1, hlt, by omega, rfl, fun K' => ?_⟩
        obtain ⟨q1, q2, q3⟩ := mul_next hk i (by omega)
        rw [MK1_step, decide_eq_true (by omega : (i : Int) < kb), q1, q2, q3, w64_in (n := (i : Int) + 1) (by omega) (by omega)]
        rfl
      · have : i = kb.toNat := by omega
        subst this
        refine .inr ⟨⟨4, .inl rfl⟩, fun K' => ?_⟩
        rw [MK1_step, decide_eq_false (by omega : ¬ (kb.toNat : Int) < kb)]
        rfl
  · cases h

theorem MC0_step {R : Type} (n ka : Int) (a : List Int) (kb m : Int) (b : List Int) (n3 m3 : Int) (x : List Int) (r c : Int) (K : Kont R) : execK p1 31 0 (ntAt p1.P 31) noCall 0 none (bodyAt p1.P 31 2) (MC0 n ka a kb m b n3 m3 x r c) (kRes 0 (keep 31 2) K) = 
    (bif decide (c < n) then (bif M.okMulC n ka a kb m b r c then K .normal (MC1 n ka a kb m b n3 m3 [M.clampC ((16384 + M.dotZ kb.toNat (M.mpr n a kb b r.toNat c.toNat)).fdiv 32768)] r (M.w64 (c + 1))) else none) else K (.exit 2) (MC0 n ka a kb m b n3 m3 x r c)) := by kernel_rfl
theorem MC1_step {R : Type} (n ka : Int) (a : List Int) (kb m : Int) (b : List Int) (n3 m3 : Int) (x : List Int) (r c : Int) (K : Kont R) : execK p1 31 0 (ntAt p1.P 31) noCall 0 none (bodyAt p1.P 31 2) (MC1 n ka a kb m b n3 m3 x r c) (kRes 0 (keep 31 2) K) = 
    (bif decide (c < n) then (bif M.okMulC n ka a kb m b r c then (bif Nat.ble (x.length + 1) 4294967296 && true then K .normal (MC1 n ka a kb m b n3 m3 (x ++ [M.clampC ((16384 + M.dotZ kb.toNat (M.mpr n a kb b r.toNat c.toNat)).fdiv 32768)]) r (M.w64 (c + 1))) else none) else none) else K (.exit 2) (MC1 n ka a kb m b n3 m3 x r c)) := by kernel_rfl
def MCh (n ka : Int) (a : List Int) (kb m : Int) (b : List Int) (n3 m3 : Int) (r : Nat) : Nat → St
  | 0 => MC0 n ka a kb m b n3 m3 [] r 0
  | i + 1 => MC1 n ka a kb m b n3 m3 (M.mulF n a kb b r (i + 1)) r (i + 1 : Nat)

def l_MC : Nat → St → Option (List (Bool × Ex × St))
  | 0, ⟨[(2, .ptr 0 0 3), (3, .ptr 1 0 3), (4, .ptr 2 0 3), (5, .int .i64 0), (6, .ptr 3 0 3), (7, .int .i64 r), (8, .int .i64 0)], [(3, .fix (.cells [.int .i64 n3, .int .i64 m3, .nilsl])), (2, .fix (.cells [.int .i64 0, .int .i64 0, .nilsl])), (1, .fix (.cells [.int .i64 kb, .int .i64 m, .vi .i64 b])), (0, .fix (.cells [.int .i64 n, .int .i64 ka, .vi .i64 a]))], 4⟩ => some [(M.okMulR n ka a kb m b r, .exit 2, MC1 n ka a kb m b n3 m3 (M.mulF n a kb b r.toNat n.toNat) r n)]
  | 0, ⟨[(2, .ptr 0 0 3), (3, .ptr 1 0 3), (4, .ptr 2 0 3), (5, .int .i64 0), (6, .ptr 3 0 3), (7, .int .i64 r), (8, .int .i64 0)], [(4, .grow 1 0 (.ints .i64 x)), (3, .fix (.cells [.int .i64 n3, .int .i64 m3, .gsl 4 0])), (2, .fix (.cells [.int .i64 0, .int .i64 0, .nilsl])), (1, .fix (.cells [.int .i64 kb, .int .i64 m, .vi .i64 b])), (0, .fix (.cells [.int .i64 n, .int .i64 ka, .vi .i64 a]))], 5⟩ => some [(M.okMulR n ka a kb m b r && decide (x.length ≤ 4194304), .exit 2, MC1 n ka a kb m b n3 m3 (x ++ M.mulF n a kb b r.toNat n.toNat) r n)]
  | _, _ => none
noncomputable def p2 : Cfg := p1.addLL 31 2 l_MC
theorem p2_ok : CfgOK p2 := addLL_ok p1_ok (by kernel_rfl) fun lo st alts ex st' h hp => by
  unfold l_MC at h
  split at h
  · simp only [Option.some.injEq] at h
    subst h
    rename_i r n3 m3 kb m b n ka a
    cases hk : (M.okMulR n ka a kb m b r) with
    | false => rw [hk] at hp; cases hp
    | true =>
      rw [hk] at hp
      cases hp
      have hkR := hk
      unfold M.okMulR at hk
      simp only [Bool.and_eq_true, decide_eq_true_eq] at hk
      obtain ⟨⟨hkk, r0⟩, r1⟩ := hk
      obtain ⟨⟨n1, n2, k1, k2, hla, hca⟩, ⟨j1, j2, m1, m2, hlb, hcb⟩, hkk2⟩ := okMul_iff hkk
      obtain ⟨r, rfl⟩ := Int.eq_ofNat_of_zero_le r0
      rw [Int.toNat_natCast]
      refine loop_known (m := 0) (kp := keep 31 2) p1_ok noCall_ok ?_
      have stp : ∀ (j : Nat), (j : Int) < n → ∀ (x : List Int), Nat.ble (x.length + 1) 4294967296 = true → ∀ (R : Type) (K' : Kont R), (bif decide ((j : Int) < n) then (bif M.okMulC n ka a kb m b r j then (bif Nat.ble (x.length + 1) 4294967296 && true then K' .normal (MC1 n ka a kb m b n3 m3 (x ++ [M.clampC ((16384 + M.dotZ kb.toNat (M.mpr n a kb b (r : Int).toNat (j : Int).toNat)).fdiv 32768)]) r (M.w64 (j + 1))) else none) else none) else none) = K' .normal (MC1 n ka a kb m b n3 m3 (x ++ [M.mulV n a kb b r j]) r (j + 1 : Nat)) := by
        intro j hj x ha R K'
        have h1 : M.okMulC n ka a kb m b r j = true := by unfold M.okMulC; rw [hkR, decide_eq_true (by omega), decide_eq_true hj]; rfl
        rw [h1, ha, decide_eq_true hj, w64_in (n := (j : Int) + 1) (by omega) (by omega), Int.toNat_natCast, Int.toNat_natCast, Int.add_comm 16384]
        rfl
      have main := loop_rule (lo := 0) (kp := keep 31 2) (b := execK p1 31 0 (ntAt p1.P 31) noCall 0 none (bodyAt p1.P 31 2)) (K := fun ex st => some (ex, st)) (fun i => MCh n ka a kb m b n3 m3 r i) (fun i => i ≤ n.toNat) (fun i => n.toNat - i) (fun _ => (.exit 2, MC1 n ka a kb m b n3 m3 (M.mulF n a kb b r n.toNat) r n.toNat)) (fun i hi => ?_) 0 (Nat.zero_le _)
      · rw [Int.toNat_of_nonneg (by omega)] at main; exact main
      by_cases hlt : i < n.toNat
      · refine .inl ⟨i + 1, hlt, by omega, rfl, fun K' => ?_⟩
        cases i with
        | zero =>
          show execK _ _ _ _ _ _ _ _ (MC0 n ka a kb m b n3 m3 [] r 0) _ = _
          rw [MC0_step]
          have hst := stp 0 (by omega) [] rfl _ K'
          have e0 : decide ((0 : Int) < n) = true := decide_eq_true (by omega)
          rw [show ((0 : Nat) : Int) = 0 from rfl, e0] at hst
          rw [e0]
          exact hst
        | succ i =>
          show execK _ _ _ _ _ _ _ _ (MC1 n ka a kb m b n3 m3 (M.mulF n a kb b r (i + 1)) r (i + 1 : Nat)) _ = _
          rw [MC1_step]
          have hst := stp (i + 1) (by omega) (M.mulF n a kb b r (i + 1)) (by rw [mulF_length]; exact Nat.ble_eq_true_of_le (by omega)) _ K'
          rw [decide_eq_true (by omega : ((i + 1 : Nat) : Int) < n)] at hst ⊢
          rw [← mulF_snoc] at hst
          exact hst
      · have : i = n.toNat := by omega
        subst this
        refine .inr ⟨⟨2, .inl rfl⟩, fun K' => ?_⟩
        obtain ⟨q, hq⟩ : ∃ q, n.toNat = q + 1 := ⟨n.toNat - 1, by omega⟩
        rw [hq]
        show execK _ _ _ _ _ _ _ _ (MC1 n ka a kb m b n3 m3 (M.mulF n a kb b r (q + 1)) r (q + 1 : Nat)) _ = _
        rw [MC1_step, decide_eq_false (by omega : ¬ ((q + 1 : Nat) : Int) < n)]
        rfl
  · simp only [Option.some.injEq] at h
    subst h
    rename_i r x n3 m3 kb m b n ka a
    cases hk : (M.okMulR n ka a kb m b r && decide (x.length ≤ 4194304)) with
    | false => rw [hk] at hp; cases hp
    | true =>
      rw [hk] at hp
      cases hp
      rw [Bool.and_eq_true] at hk
      obtain ⟨hk, hlen⟩ := hk
      have hlen := of_decide_eq_true hlen
      have hkR := hk
      unfold M.okMulR at hk
      simp only [Bool.and_eq_true, decide_eq_true_eq] at hk
      obtain ⟨⟨hkk, r0⟩, r1⟩ := hk
      obtain ⟨⟨n1, n2, k1, k2, hla, hca⟩, ⟨j1, j2, m1, m2, hlb, hcb⟩, hkk2⟩ := okMul_iff hkk
      obtain ⟨r, rfl⟩ := Int.eq_ofNat_of_zero_le r0
      rw [Int.toNat_natCast]
      refine loop_known (m := 0) (kp := keep 31 2) p1_ok noCall_ok ?_
      have stp : ∀ (j : Nat), (j : Int) < n → ∀ (x : List Int), Nat.ble (x.length + 1) 4294967296 = true → ∀ (R : Type) (K' : Kont R), (bif decide ((j : Int) < n) then (bif M.okMulC n ka a kb m b r j then (bif Nat.ble (x.length + 1) 4294967296 && true then K' .normal (MC1 n ka a kb m b n3 m3 (x ++ [M.clampC ((16384 + M.dotZ kb.toNat (M.mpr n a kb b (r : Int).toNat (j : Int).toNat)).fdiv 32768)]) r (M.w64 (j + 1))) else none) else none) else none) = K' .normal (MC1 n ka a kb m b n3 m3 (x ++ [M.mulV n a kb b r j]) r (j + 1 : Nat)) := by
        intro j hj x ha R K'
        have h1 : M.okMulC n ka a kb m b r j = true := by unfold M.okMulC; rw [hkR, decide_eq_true (by omega), decide_eq_true hj]; rfl
        rw [h1, ha, decide_eq_true hj, w64_in (n := (j : Int) + 1) (by omega) (by omega), Int.toNat_natCast, Int.toNat_natCast, Int.add_comm 16384]
        rfl
      have main := loop_rule (lo := 0) (kp := keep 31 2) (b := execK p1 31 0 (ntAt p1.P 31) noCall 0 none (bodyAt p1.P 31 2)) (K := fun ex st => some (ex, st)) (fun i => MC1 n ka a kb m b n3 m3 (x ++ M.mulF n a kb b r i) r i) (fun i => i ≤ n.toNat) (fun i => n.toNat - i) (fun _ => (.exit 2, MC1 n ka a kb m b n3 m3 (x ++ M.mulF n a kb b r n.toNat) r n.toNat)) (fun i hi => ?_) 0 (Nat.zero_le _)
      · rw [Int.toNat_of_nonneg (by omega)] at main; simp only [show x ++ M.mulF n a kb b r 0 = x from List.append_nil x] at main; exact main
      by_cases hlt : i < n.toNat
      · refine .inl ⟨i + 1, hlt, by omega, rfl, fun K' => ?_⟩
        show execK _ _ _ _ _ _ _ _ (MC1 n ka a kb m b n3 m3 (x ++ M.mulF n a kb b r i) r i) _ = _
        rw [MC1_step]
        have hst := stp i (by omega) (x ++ M.mulF n a kb b r i) (by rw [List.length_append, mulF_length]; exact Nat.ble_eq_true_of_le (by omega)) _ K'
        rw [decide_eq_true (by omega : (i : Int) < n)] at hst ⊢
        rw [List.append_assoc x (M.mulF n a kb b r i) [M.mulV n a kb b r i], ← mulF_snoc] at hst
        exact hst
      · have : i = n.toNat := by omega
        subst this
        refine .inr ⟨⟨2, .inl rfl⟩, fun K' => ?_⟩
        show execK _ _ _ _ _ _ _ _ (MC1 n ka a kb m b n3 m3 (x ++ M.mulF n a kb b r n.toNat) r n.toNat) _ = _
        rw [MC1_step, decide_eq_false (by omega : ¬ (n.toNat : Int) < n)]
        rfl
  · cases h

theorem MR0_step {R : Type} (n ka : Int) (a : List Int) (kb m : Int) (b : List Int) (n3 m3 : Int) (x : List Int) (r : Int) (K : Kont R) : execK p2 31 0 (ntAt p2.P 31) noCall 0 none (bodyAt p2.P 31 0) (MR0 n ka a kb m b n3 m3 x r) (kRes 0 (keep 31 0) K) = 
    (bif decide (r < m) then (bif M.okMulR n ka a kb m b r then K .normal (MR1 n ka a kb m b n3 m3 (M.mulF n a kb b r.toNat n.toNat) (M.w64 (r + 1))) else none) else K (.exit 0) (MR0 n ka a kb m b n3 m3 x r)) := by kernel_rfl
theorem MR1_step {R : Type} (n ka : Int) (a : List Int) (kb m : Int) (b : List Int) (n3 m3 : Int) (x : List Int) (r : Int) (K : Kont R) : execK p2 31 0 (ntAt p2.P 31) noCall 0 none (bodyAt p2.P 31 0) (MR1 n ka a kb m b n3 m3 x r) (kRes 0 (keep 31 0) K) = 
    (bif decide (r < m) then (bif M.okMulR n ka a kb m b r && decide (x.length ≤ 4194304) then K .normal (MR1 n ka a kb m b n3 m3 (x ++ M.mulF n a kb b r.toNat n.toNat) (M.w64 (r + 1))) else none) else K (.exit 0) (MR1 n ka a kb m b n3 m3 x r)) := by kernel_rfl
def MRh (n ka : Int) (a : List Int) (kb m : Int) (b : List Int) (n3 m3 : Int) : Nat → St
  | 0 => MR0 n ka a kb m b n3 m3 [] 0
  | i + 1 => MR1 n ka a kb m b n3 m3 (M.mulD n a kb b (i + 1)) (i + 1 : Nat)
theorem MRh_next {R : Type} {n ka : Int} {a : List Int} {kb m : Int} {b : List Int} (n3 m3 : Int) (h : M.okMul n ka a kb m b = true) (i : Nat) (hi : (i : Int) < m) (K' : Kont R) :
    execK p2 31 0 (ntAt p2.P 31) noCall 0 none (bodyAt p2.P 31 0) (MRh n ka a kb m b n3 m3 i) (kRes 0 (keep 31 0) K') = K' .normal (MRh n ka a kb m b n3 m3 (i + 1)) := by
  obtain ⟨⟨n1, n2, k1, k2, hla, hca⟩, ⟨j1, j2, m1, m2, hlb, hcb⟩, hkk2⟩ := okMul_iff h
  have hk : M.okMulR n ka a kb m b i = true := by unfold M.okMulR; rw [h, decide_eq_true (by omega), decide_eq_true hi]; rfl
  cases i with
  | zero =>
    show execK p2 31 0 (ntAt p2.P 31) noCall 0 none (bodyAt p2.P 31 0) (MR0 n ka a kb m b n3 m3 [] 0) _ = _
    have hk0 : M.okMulR n ka a kb m b 0 = true := hk
    rw [MR0_step, decide_eq_true (by omega : (0 : Int) < m), hk0]
    show K' .normal (MR1 n ka a kb m b n3 m3 (M.mulF n a kb b 0 n.toNat) (M.w64 (0 + 1))) = K' .normal (MR1 n ka a kb m b n3 m3 (M.mulD n a kb b (0 + 1)) ((0 + 1 : Nat) : Int))
    rw [mulD_snoc, show M.mulD n a kb b 0 = [] from rfl, List.nil_append, w64_in (n := 0 + 1) (by omega) (by omega)]
    rfl
  | succ i =>
    show execK p2 31 0 (ntAt p2.P 31) noCall 0 none (bodyAt p2.P 31 0) (MR1 n ka a kb m b n3 m3 (M.mulD n a kb b (i + 1)) (i + 1 : Nat)) _ = _
    have hb : (M.mulD n a kb b (i + 1)).length ≤ 4194304 := by
      rw [mulD_length]
      have := Nat.mul_le_mul (show i + 1 ≤ 8 by omega) (show n.toNat ≤ 8 by omega)
      omega
    rw [MR1_step, decide_eq_true hi, hk, decide_eq_true hb, w64_in (n := ((i + 1 : Nat) : Int) + 1) (by omega) (by omega), Int.toNat_natCast, ← mulD_snoc]
    rfl

def l_MR : Nat → St → Option (List (Bool × Ex × St))
  | 0, ⟨[(2, .ptr 0 0 3), (3, .ptr 1 0 3), (4, .ptr 2 0 3), (5, .int .i64 0), (6, .ptr 3 0 3), (7, .int .i64 0)], [(3, .fix (.cells [.int .i64 n3, .int .i64 m3, .nilsl])), (2, .fix (.cells [.int .i64 0, .int .i64 0, .nilsl])), (1, .fix (.cells [.int .i64 kb, .int .i64 m, .vi .i64 b])), (0, .fix (.cells [.int .i64 n, .int .i64 ka, .vi .i64 a]))], 4⟩ => some [(M.okMul n ka a kb m b, .exit 0, MR1 n ka a kb m b n3 m3 (M.mulD n a kb b m.toNat) m)]
  | _, _ => none
noncomputable def p3 : Cfg := p2.addLL 31 0 l_MR
theorem p3_ok : CfgOK p3 := addLL_ok p2_ok (by kernel_rfl) fun lo st alts ex st' h hp => by
  unfold l_MR at h
  split at h
  · simp only [Option.some.injEq] at h
    subst h
    rename_i n3 m3 kb m b n ka a
    cases hk : M.okMul n ka a kb m b with
    | false => rw [hk] at hp; cases hp
    | true =>
      rw [hk] at hp
      cases hp
      obtain ⟨⟨n1, n2, k1, k2, hla, hca⟩, ⟨j1, j2, m1, m2, hlb, hcb⟩, hkk2⟩ := okMul_iff hk
      refine loop_known (m := 0) (kp := keep 31 0) p2_ok noCall_ok ?_
      obtain ⟨q, hq⟩ : ∃ q, m.toNat = q + 1 := ⟨m.toNat - 1, by omega⟩
      have main := loop_rule (lo := 0) (kp := keep 31 0) (b := execK p2 31 0 (ntAt p2.P 31) noCall 0 none (bodyAt p2.P 31 0)) (K := fun ex st => some (ex, st)) (fun i => MRh n ka a kb m b n3 m3 i) (fun i => i ≤ m.toNat) (fun i => m.toNat - i) (fun _ => (.exit 0, MRh n ka a kb m b n3 m3 m.toNat)) (fun i hi => ?_) 0 (Nat.zero_le _)
      · rw [hq] at main ⊢
        have : m = ((q + 1 : Nat) : Int) := by omega
        show ∃ n', _ = some (_, MR1 n ka a kb m b n3 m3 (M.mulD n a kb b (q + 1)) m)
        have hz : MR1 n ka a kb m b n3 m3 (M.mulD n a kb b (q + 1)) m = MR1 n ka a kb m b n3 m3 (M.mulD n a kb b (q + 1)) ((q + 1 : Nat) : Int) := by rw [← this]
        rw [hz]
        exact main
      by_cases hlt : i < m.toNat
      · exact .inl ⟨i + 1, hlt, by omega, rfl, fun K' => MRh_next n3 m3 hk i (by omega) K'⟩
      · have : i = m.toNat := by omega
        subst this
        refine .inr ⟨⟨0, .inl rfl⟩, fun K' => ?_⟩
        rw [hq]
        show execK p2 31 0 (ntAt p2.P 31) noCall 0 none (bodyAt p2.P 31 0) (MR1 n ka a kb m b n3 m3 (M.mulD n a kb b (q + 1)) (q + 1 : Nat)) _ = _
        rw [MR1_step, decide_eq_false (by omega : ¬ ((q + 1 : Nat) : Int) < m)]
        rfl
  · cases h

namespace M
def mulI (n ka : Int) (a : List Int) (kb m : Int) (b : List Int) : Int := bif mulE n ka a kb m b == 0 then n else 0
def mulO (n ka : Int) (a : List Int) (kb m : Int) (b : List Int) : Int := bif mulE n ka a kb m b == 0 then m else 0
def mulC (n ka : Int) (a : List Int) (kb m : Int) (b : List Int) : List Int := bif mulE n ka a kb m b == 0 then mulD n a kb b m.toNat else []
end M
theorem okMul_of {n ka : Int} {a : List Int} {kb m : Int} {b : List Int} (h1 : M.mtxV n ka a = true) (h2 : M.mtxV kb m b = true) (h3 : kb = ka) : M.okMul n ka a kb m b = true := by
  unfold M.okMul; rw [h1, h2, decide_eq_true h3]; rfl

theorem e_rMul (n ka : Int) (a : List Int) (kb m : Int) (b : List Int) (hc : (decide (a.length < 4294967296) && decide (b.length < 4294967296)) = true) : Ev (callB p3 noCall 0 31 [.agg [.int .i64 n, .int .i64 ka, .vi .i64 a], .agg [.int .i64 kb, .int .i64 m, .vi .i64 b]] [] 0) (.tuple [.agg [.int .i64 (M.mulI n ka a kb m b), .int .i64 (M.mulO n ka a kb m b), .vi .i64 (M.mulC n ka a kb m b)], .int .i64 (M.mulE n ka a kb m b)]) := by
  rw [show callB p3 noCall 0 31 [.agg [.int .i64 n, .int .i64 ka, .vi .i64 a], .agg [.int .i64 kb, .int .i64 m, .vi .i64 b]] [] 0 = (bif decide (a.length < 4294967296) && true then (bif !!M.mtxV n ka a then (bif decide (b.length < 4294967296) && true then (bif !M.mtxV kb m b then some (.tuple [.agg [.int .i64 0, .int .i64 0, .nilsl], .int .i64 1], [], 0) else bif kb != ka then some (.tuple [.agg [.int .i64 0, .int .i64 0, .nilsl], .int .i64 11], [], 0) else (bif M.okMul n ka a kb m b then some (.tuple [.agg [.int .i64 n, .int .i64 m, .vi .i64 (M.mulD n a kb b m.toNat)], .int .i64 0], [], 0) else none)) else none) else some (.tuple [.agg [.int .i64 0, .int .i64 0, .nilsl], .int .i64 1], [], 0)) else none) by kernel_rfl]
  rw [Bool.and_eq_true] at hc
  obtain ⟨hc1, hc2⟩ := hc
  rw [hc1, hc2]
  unfold M.mulI M.mulO M.mulC M.mulE
  cases hm : M.mtxV n ka a with
  | false => exact ⟨_, [], 0, rfl, rfl, .tuple (.cons (.agg (.cons (.refl _) (.cons (.refl _) (.cons (.nil _) (.refl _))))) (.refl _))⟩
  | true =>
  cases hv : M.mtxV kb m b with
  | false => exact ⟨_, [], 0, rfl, rfl, .tuple (.cons (.agg (.cons (.refl _) (.cons (.refl _) (.cons (.nil _) (.refl _))))) (.refl _))⟩
  | true =>
  by_cases hcn : kb = ka
  · have hA := okMul_of hm hv hcn
    rw [show (kb != ka) = false by simp [hcn], hA]
    exact ⟨_, [], 0, rfl, rfl, .refl _⟩
  · rw [show (kb != ka) = true by simpa using hcn]
    exact ⟨_, [], 0, rfl, rfl, .tuple (.cons (.agg (.cons (.refl _) (.cons (.refl _) (.cons (.nil _) (.refl _))))) (.refl _))⟩
def m_rMul : List AV → Option (Bool × AV)
  | [.agg [.int .i64 n, .int .i64 ka, a_], .agg [.int .i64 kb, .int .i64 m, b_]] => (asVi .i64 a_).bind fun a => (asVi .i64 b_).bind fun b => some ((decide (a.length < 4294967296) && decide (b.length < 4294967296)), .tuple [.agg [.int .i64 (M.mulI n ka a kb m b), .int .i64 (M.mulO n ka a kb m b), .vi .i64 (M.mulC n ka a kb m b)], .int .i64 (M.mulE n ka a kb m b)])
  | _ => none
noncomputable def p4 : Cfg := p3.add 31 m_rMul
theorem p4_ok : CfgOK p4 := add_ok p3_ok fun xs v h => by
  unfold m_rMul at h; split at h
  · obtain ⟨a, h_a, h⟩ := Option.bind_eq_some_iff.1 h
    obtain ⟨b, h_b, h⟩ := Option.bind_eq_some_iff.1 h
    simp only [Option.some.injEq, Prod.mk.injEq] at h; obtain ⟨h1, rfl⟩ := h
    exact Ev.pure p3_ok noCall_ok (e_rMul _ _ _ _ _ _ h1) (.cons (.agg (.cons (.refl _) (.cons (.refl _) (.cons (asVi_le h_a) (.refl _))))) (.cons (.agg (.cons (.refl _) (.cons (.refl _) (.cons (asVi_le h_b) (.refl _))))) (.refl _)))
  · cases h

end Go.Proofs.Ytplcpdjabjjfiaa
