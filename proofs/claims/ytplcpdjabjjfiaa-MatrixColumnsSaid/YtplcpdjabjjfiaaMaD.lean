/- The models of matrices: blocks pass a matrix, the reference. -/
import Derived.Test.YtplcpdjabjjfiaaMaC
namespace Go.Proofs.Ytplcpdjabjjfiaa
open Am
set_option maxRecDepth 100000
set_option linter.unusedVariables false
set_option linter.unusedSimpArgs false

namespace M
def okRef (n m : Int) (co l : List Int) (p : Int) : Bool := okApp n m co l && decide (0 ≤ p) && decide (p + n ≤ l.length)
def okRef1 (n m : Int) (co l : List Int) (p r : Int) : Bool := okRef n m co l p && decide (0 ≤ r) && decide (r < m)
end M
theorem okRef_iff {n m : Int} {co l : List Int} {p : Int} (h : M.okRef n m co l p = true) : M.okApp n m co l = true ∧ 0 ≤ p ∧ p + n ≤ l.length ∧ M.okRow n m (M.rowsL n m co) co l p = true := by
  unfold M.okRef at h
  simp only [Bool.and_eq_true, decide_eq_true_eq] at h
  exact ⟨h.1.1, h.1.2, h.2, okRow_of h.1.1 h.1.2 h.2⟩
theorem getD_row {n : Int} {co : List Int} {j i : Nat} (hi : (i : Int) < n) : (M.row n co j).getD i 0 = co.getD (((j : Int) * n + i).toNat) 0 := by
  obtain ⟨k, rfl⟩ := Int.eq_ofNat_of_zero_le (show 0 ≤ n by omega)
  unfold M.row
  rw [show ((j : Int) * (k : Int) + i).toNat = j * k + i by rw [← Int.natCast_mul]; omega]
  simp only [List.getD_eq_getElem?_getD, Int.toNat_natCast]
  rw [List.getElem?_take_of_lt (by omega), List.getElem?_drop]
theorem getD_cut {n p : Int} {l : List Int} {i : Nat} (h0 : 0 ≤ p) (hi : (i : Int) < n) : (M.cutN l p (p + n)).getD i 0 = l.getD ((p + i).toNat) 0 := by
  unfold M.cutN
  simp only [List.getD_eq_getElem?_getD]
  rw [List.getElem?_take_of_lt (by omega), List.getElem?_drop, show p.toNat * 1 + i = (p + i).toNat by omega]
theorem ref_next {n m : Int} {co l : List Int} {p : Int} {j : Nat} (h : M.okRef1 n m co l p j = true) (i : Nat) (hi : (i : Int) < n) :
    (decide (0 ≤ M.w64 (M.w64 ((j : Int) * n) + i)) && decide (M.w64 (M.w64 ((j : Int) * n) + i) < co.length) && true) = true ∧ (decide (0 ≤ M.w64 (p + i)) && decide (M.w64 (p + i) < l.length) && true) = true ∧
    M.w64 (16384 + M.dotZ i (M.pr (M.row n co j) (M.cutN l p (p + n))) + M.w64 (co.getD (M.w64 (M.w64 ((j : Int) * n) + i)).toNat 0 * M.w64 (l.getD (M.w64 (p + i)).toNat 0))) = 16384 + M.dotZ (i + 1) (M.pr (M.row n co j) (M.cutN l p (p + n))) := by
  unfold M.okRef1 at h
  simp only [Bool.and_eq_true, decide_eq_true_eq] at h
  obtain ⟨⟨hk, h2⟩, h3⟩ := h
  obtain ⟨hA, p0, p1, hR⟩ := okRef_iff hk
  obtain ⟨n1, n2, m1, m2, hl, hc, hs, hz⟩ := okApp_iff hA
  have hd := ok_dot hR (j := j) h3
  have e1 := cut_len (n := n) (by omega) p0 p1
  have a0 : 0 ≤ (j : Int) * n := Int.mul_nonneg (by omega) (by omega)
  have a1 : ((j + 1 : Nat) : Int) * n ≤ m * n := Int.mul_le_mul_of_nonneg_right (by omega) (by omega)
  have a2 : m * n ≤ 8 * 8 := Int.mul_le_mul (by omega) (by omega) (by omega) (by omega)
  have a3 : ((j + 1 : Nat) : Int) * n = j * n + n := by rw [show ((j + 1 : Nat) : Int) = (j : Int) + 1 by omega, Int.add_mul, Int.one_mul]
  rw [Int.mul_comm n m] at hl
  rw [w64_in (n := (j : Int) * n) (by omega) (by omega), w64_in (n := (j : Int) * n + i) (by omega) (by omega), w64_in (n := p + i) (by omega) (by omega)]
  refine ⟨by rw [decide_eq_true (by omega), decide_eq_true (by omega)]; rfl, by rw [decide_eq_true (by omega), decide_eq_true (by omega)]; rfl, ?_⟩
  rw [← getD_row hi, ← getD_cut p0 hi]
  have hx : i < (M.cutN l p (p + n)).length := by omega
  have b1 := dot_small hd i (by omega)
  obtain ⟨h1, h2, h3, h4, h5⟩ := okD_iff hd
  have b2 := pr_bound h4 h5 (i := i) (by omega) hx
  obtain ⟨s1, s2⟩ := smp_iff (all_getD h5 hx)
  rw [w64_in (n := (M.cutN l p (p + n)).getD i 0) (by omega) (by omega)]
  show M.w64 (_ + M.w64 (M.pr (M.row n co j) (M.cutN l p (p + n)) i)) = _
  rw [w64_in (n := M.pr (M.row n co j) (M.cutN l p (p + n)) i) (by omega) (by omega), w64_in (by omega) (by omega), Int.add_assoc]
  rfl

theorem RC0_step {R : Type} (n m mo : Int) (co : List Int) (c : Int) (l a : List Int) (p r s i : Int) (K : Kont R) : execK c4 17 0 (ntAt c4.P 17) noCall 0 none (bodyAt c4.P 17 4) (RC0 n m mo co c l a p r s i) (kRes 0 (keep 17 4) K) = 
    (bif decide (i < n) then (bif decide (0 ≤ M.w64 (M.w64 (r * n) + i)) && decide (M.w64 (M.w64 (r * n) + i) < co.length) && true then (bif decide (0 ≤ M.w64 (p + i)) && decide (M.w64 (p + i) < l.length) && true then K .normal (RC0 n m mo co c l a p r (M.w64 (s + M.w64 (co.getD (M.w64 (M.w64 (r * n) + i)).toNat 0 * M.w64 (l.getD (M.w64 (p + i)).toNat 0)))) (M.w64 (i + 1))) else none) else none) else K (.exit 4) (RC0 n m mo co c l a p r s i)) := by kernel_rfl
theorem RC1_step {R : Type} (n m mo : Int) (co : List Int) (c : Int) (l a : List Int) (p r s i : Int) (K : Kont R) : execK c4 17 0 (ntAt c4.P 17) noCall 0 none (bodyAt c4.P 17 4) (RC1 n m mo co c l a p r s i) (kRes 0 (keep 17 4) K) = 
    (bif decide (i < n) then (bif decide (0 ≤ M.w64 (M.w64 (r * n) + i)) && decide (M.w64 (M.w64 (r * n) + i) < co.length) && true then (bif decide (0 ≤ M.w64 (p + i)) && decide (M.w64 (p + i) < l.length) && true then K .normal (RC1 n m mo co c l a p r (M.w64 (s + M.w64 (co.getD (M.w64 (M.w64 (r * n) + i)).toNat 0 * M.w64 (l.getD (M.w64 (p + i)).toNat 0)))) (M.w64 (i + 1))) else none) else none) else K (.exit 4) (RC1 n m mo co c l a p r s i)) := by kernel_rfl
def l_RC : Nat → St → Option (List (Bool × Ex × St))
  | 0, ⟨[(2, .ptr 0 0 3), (3, .ptr 1 0 2), (4, .ptr 2 0 2), (5, .int .i64 0), (6, .ptr 3 0 2), (7, .int .i64 p), (8, .int .i64 r), (9, .int .i64 16384), (10, .int .i64 0)], [(3, .fix (.cells [.int .i64 mo, .nilsl])), (2, .fix (.cells [.int .i64 0, .nilsl])), (1, .fix (.cells [.int .i64 c, .vi .i32 l])), (0, .fix (.cells [.int .i64 n, .int .i64 m, .vi .i64 co]))], 4⟩ => some [(M.okRef1 n m co l p r, .exit 4, RC0 n m mo co c l [] p r (16384 + M.dotZ n.toNat (M.pr (M.row n co r.toNat) (M.cutN l p (p + n)))) n)]
  | 0, ⟨[(2, .ptr 0 0 3), (3, .ptr 1 0 2), (4, .ptr 2 0 2), (5, .int .i64 0), (6, .ptr 3 0 2), (7, .int .i64 p), (8, .int .i64 r), (9, .int .i64 16384), (10, .int .i64 0)], [(4, .grow 1 0 (.ints .i32 a)), (3, .fix (.cells [.int .i64 mo, .gsl 4 0])), (2, .fix (.cells [.int .i64 0, .nilsl])), (1, .fix (.cells [.int .i64 c, .vi .i32 l])), (0, .fix (.cells [.int .i64 n, .int .i64 m, .vi .i64 co]))], 5⟩ => some [(M.okRef1 n m co l p r, .exit 4, RC1 n m mo co c l a p r (16384 + M.dotZ n.toNat (M.pr (M.row n co r.toNat) (M.cutN l p (p + n)))) n)]
  | _, _ => none
noncomputable def c5 : Cfg := c4.addLL 17 4 l_RC
theorem c5_ok : CfgOK c5 := addLL_ok c4_ok (by kernel_rfl) fun lo st alts ex st' h hp => by
  unfold l_RC at h
  split at h
  · simp only [Option.some.injEq] at h
    subst h
    rename_i p r mo c l n m co
    cases hk : M.okRef1 n m co l p r with
    | false => rw [hk] at hp; cases hp
    | true =>
      rw [hk] at hp
      cases hp
      have hk' := hk
      unfold M.okRef1 at hk'
      simp only [Bool.and_eq_true, decide_eq_true_eq] at hk'
      obtain ⟨⟨hkk, hr0⟩, _⟩ := hk'
      obtain ⟨hA, p0, p1, hR⟩ := okRef_iff hkk
      obtain ⟨n1, n2, m1, m2, hl, hc, hs, hz⟩ := okApp_iff hA
      obtain ⟨j, rfl⟩ := Int.eq_ofNat_of_zero_le hr0
      rw [Int.toNat_natCast]
      refine loop_known (m := 0) (kp := keep 17 4) c4_ok noCall_ok ?_
      have main := loop_rule (lo := 0) (kp := keep 17 4) (b := execK c4 17 0 (ntAt c4.P 17) noCall 0 none (bodyAt c4.P 17 4)) (K := fun ex st => some (ex, st)) (fun i => RC0 n m mo co c l [] p j (16384 + M.dotZ i (M.pr (M.row n co j) (M.cutN l p (p + n)))) i) (fun i => i ≤ n.toNat) (fun i => n.toNat - i) (fun _ => (.exit 4, RC0 n m mo co c l [] p j (16384 + M.dotZ n.toNat (M.pr (M.row n co j) (M.cutN l p (p + n)))) n.toNat)) (fun i hi => ?_) 0 (Nat.zero_le _)
      · rw [show (n.toNat : Int) = n by omega] at main; exact main
      by_cases hlt : i < n.toNat
      · refine .inl ⟨i + 1, hlt, by omega, rfl, fun K' => ?_⟩
        obtain ⟨q1, q2, q3⟩ := ref_next hk i (by omega)
        rw [RC0_step, decide_eq_true (by omega : (i : Int) < n), q1, q2, q3, w64_in (n := (i : Int) + 1) (by omega) (by omega)]
        rfl
      · have : i = n.toNat := by omega
        subst this
        refine .inr ⟨⟨4, .inl rfl⟩, fun K' => ?_⟩
        rw [RC0_step, decide_eq_false (by omega : ¬ (n.toNat : Int) < n)]
        rfl
  · simp only [Option.some.injEq] at h
    subst h
    rename_i p r a mo c l n m co
    cases hk : M.okRef1 n m co l p r with
    | false => rw [hk] at hp; cases hp
    | true =>
      rw [hk] at hp
      cases hp
      have hk' := hk
      unfold M.okRef1 at hk'
      simp only [Bool.and_eq_true, decide_eq_true_eq] at hk'
      obtain ⟨⟨hkk, hr0⟩, _⟩ := hk'
      obtain ⟨hA, p0, p1, hR⟩ := okRef_iff hkk
      obtain ⟨n1, n2, m1, m2, hl, hc, hs, hz⟩ := okApp_iff hA
      obtain ⟨j, rfl⟩ := Int.eq_ofNat_of_zero_le hr0
      rw [Int.toNat_natCast]
      refine loop_known (m := 0) (kp := keep 17 4) c4_ok noCall_ok ?_
      have main := loop_rule (lo := 0) (kp := keep 17 4) (b := execK c4 17 0 (ntAt c4.P 17) noCall 0 none (bodyAt c4.P 17 4)) (K := fun ex st => some (ex, st)) (fun i => RC1 n m mo co c l a p j (16384 + M.dotZ i (M.pr (M.row n co j) (M.cutN l p (p + n)))) i) (fun i => i ≤ n.toNat) (fun i => n.toNat - i) (fun _ => (.exit 4, RC1 n m mo co c l a p j (16384 + M.dotZ n.toNat (M.pr (M.row n co j) (M.cutN l p (p + n)))) n.toNat)) (fun i hi => ?_) 0 (Nat.zero_le _)
      · rw [show (n.toNat : Int) = n by omega] at main; exact main
      by_cases hlt : i < n.toNat
      · refine .inl ⟨i + 1, hlt, by omega, rfl, fun K' => ?_⟩
        obtain ⟨q1, q2, q3⟩ := ref_next hk i (by omega)
        rw [RC1_step, decide_eq_true (by omega : (i : Int) < n), q1, q2, q3, w64_in (n := (i : Int) + 1) (by omega) (by omega)]
        rfl
      · have : i = n.toNat := by omega
        subst this
        refine .inr ⟨⟨4, .inl rfl⟩, fun K' => ?_⟩
        rw [RC1_step, decide_eq_false (by omega : ¬ (n.toNat : Int) < n)]
        rfl
  · cases h

theorem RR0_step {R : Type} (n m mo : Int) (co : List Int) (c : Int) (l a : List Int) (p r : Int) (K : Kont R) : execK c5 17 0 (ntAt c5.P 17) noCall 0 none (bodyAt c5.P 17 2) (RR0 n m mo co c l a p r) (kRes 0 (keep 17 2) K) = 
    (bif decide (r < m) then (bif M.okRef1 n m co l p r then K .normal (RR1 n m mo co c l [M.sat ((16384 + M.dotZ n.toNat (M.pr (M.row n co r.toNat) (M.cutN l p (p + n)))).fdiv 32768)] p (M.w64 (r + 1))) else none) else K (.exit 2) (RR0 n m mo co c l a p r)) := by kernel_rfl
theorem RR1_step {R : Type} (n m mo : Int) (co : List Int) (c : Int) (l a : List Int) (p r : Int) (K : Kont R) : execK c5 17 0 (ntAt c5.P 17) noCall 0 none (bodyAt c5.P 17 2) (RR1 n m mo co c l a p r) (kRes 0 (keep 17 2) K) = 
    (bif decide (r < m) then (bif M.okRef1 n m co l p r then (bif Nat.ble (a.length + 1) 4294967296 && true then K .normal (RR1 n m mo co c l (a ++ [M.sat ((16384 + M.dotZ n.toNat (M.pr (M.row n co r.toNat) (M.cutN l p (p + n)))).fdiv 32768)]) p (M.w64 (r + 1))) else none) else none) else K (.exit 2) (RR1 n m mo co c l a p r)) := by kernel_rfl
def RRh (n m mo : Int) (co : List Int) (c : Int) (l : List Int) (p : Int) : Nat → St
  | 0 => RR0 n m mo co c l [] p 0
  | i + 1 => RR1 n m mo co c l (M.apF n m co l p (i + 1)) p (i + 1 : Nat)

def l_RR : Nat → St → Option (List (Bool × Ex × St))
  | 0, ⟨[(2, .ptr 0 0 3), (3, .ptr 1 0 2), (4, .ptr 2 0 2), (5, .int .i64 0), (6, .ptr 3 0 2), (7, .int .i64 p), (8, .int .i64 0)], [(3, .fix (.cells [.int .i64 mo, .nilsl])), (2, .fix (.cells [.int .i64 0, .nilsl])), (1, .fix (.cells [.int .i64 c, .vi .i32 l])), (0, .fix (.cells [.int .i64 n, .int .i64 m, .vi .i64 co]))], 4⟩ => some [(M.okRef n m co l p, .exit 2, RR1 n m mo co c l (M.apF n m co l p m.toNat) p m)]
  | 0, ⟨[(2, .ptr 0 0 3), (3, .ptr 1 0 2), (4, .ptr 2 0 2), (5, .int .i64 0), (6, .ptr 3 0 2), (7, .int .i64 p), (8, .int .i64 0)], [(4, .grow 1 0 (.ints .i32 a)), (3, .fix (.cells [.int .i64 mo, .gsl 4 0])), (2, .fix (.cells [.int .i64 0, .nilsl])), (1, .fix (.cells [.int .i64 c, .vi .i32 l])), (0, .fix (.cells [.int .i64 n, .int .i64 m, .vi .i64 co]))], 5⟩ => some [(M.okRef n m co l p && decide (a.length ≤ 4194304), .exit 2, RR1 n m mo co c l (a ++ M.apF n m co l p m.toNat) p m)]
  | _, _ => none
noncomputable def c6 : Cfg := c5.addLL 17 2 l_RR
theorem c6_ok : CfgOK c6 := addLL_ok c5_ok (by kernel_rfl) fun lo st alts ex st' h hp => by
  unfold l_RR at h
  split at h
  · simp only [Option.some.injEq] at h
    subst h
    rename_i p mo c l n m co
    cases hk : (M.okRef n m co l p) with
    | false => rw [hk] at hp; cases hp
    | true =>
      rw [hk] at hp
      cases hp
      obtain ⟨hA, p0, p1, hR⟩ := okRef_iff hk
      obtain ⟨n1, n2, m1, m2, hl, hc, hs, hz⟩ := okApp_iff hA
      refine loop_known (m := 0) (kp := keep 17 2) c5_ok noCall_ok ?_
      have stp : ∀ (j : Nat), (j : Int) < m → ∀ (a : List Int), Nat.ble (a.length + 1) 4294967296 = true → ∀ (R : Type) (K' : Kont R), (bif decide ((j : Int) < m) then (bif M.okRef1 n m co l p j then (bif Nat.ble (a.length + 1) 4294967296 && true then K' .normal (RR1 n m mo co c l (a ++ [M.sat ((16384 + M.dotZ n.toNat (M.pr (M.row n co (j : Int).toNat) (M.cutN l p (p + n)))).fdiv 32768)]) p (M.w64 (j + 1))) else none) else none) else none) = K' .normal (RR1 n m mo co c l (a ++ [M.apV (M.row n co j) (M.cutN l p (p + n))]) p (j + 1 : Nat)) := by
        intro j hj a ha R K'
        have h1 : M.okRef1 n m co l p j = true := by unfold M.okRef1; rw [hk, decide_eq_true (by omega), decide_eq_true hj]; rfl
        have e1 := cut_len (n := n) (by omega) p0 p1
        rw [h1, ha, decide_eq_true hj, w64_in (n := (j : Int) + 1) (by omega) (by omega), Int.toNat_natCast, Int.add_comm 16384]
        unfold M.apV
        rw [show (M.cutN l p (p + n)).length = n.toNat by omega]
        rfl
      have main := loop_rule (lo := 0) (kp := keep 17 2) (b := execK c5 17 0 (ntAt c5.P 17) noCall 0 none (bodyAt c5.P 17 2)) (K := fun ex st => some (ex, st)) (fun i => RRh n m mo co c l p i) (fun i => i ≤ m.toNat) (fun i => m.toNat - i) (fun _ => (.exit 2, RR1 n m mo co c l (M.apF n m co l p m.toNat) p m.toNat)) (fun i hi => ?_) 0 (Nat.zero_le _)
      · rw [Int.toNat_of_nonneg (by omega)] at main; exact main
      by_cases hlt : i < m.toNat
      · refine .inl ⟨i + 1, hlt, by omega, rfl, fun K' => ?_⟩
        cases i with
        | zero =>
          show execK _ _ _ _ _ _ _ _ (RR0 n m mo co c l [] p 0) _ = _
          rw [RR0_step]
          have hst := stp 0 (by omega) [] rfl _ K'
          have e0 : decide ((0 : Int) < m) = true := decide_eq_true (by omega)
          rw [show ((0 : Nat) : Int) = 0 from rfl, e0] at hst
          rw [e0]
          exact hst
        | succ i =>
          show execK _ _ _ _ _ _ _ _ (RR1 n m mo co c l (M.apF n m co l p (i + 1)) p (i + 1 : Nat)) _ = _
          rw [RR1_step]
          have hst := stp (i + 1) (by omega) (M.apF n m co l p (i + 1)) (by rw [apF_length]; exact Nat.ble_eq_true_of_le (by omega)) _ K'
          rw [decide_eq_true (by omega : ((i + 1 : Nat) : Int) < m)] at hst ⊢
          rw [← apF_snoc] at hst
          exact hst
      · have : i = m.toNat := by omega
        subst this
        refine .inr ⟨⟨2, .inl rfl⟩, fun K' => ?_⟩
        obtain ⟨q, hq⟩ : ∃ q, m.toNat = q + 1 := ⟨m.toNat - 1, by omega⟩
        rw [hq]
        show execK _ _ _ _ _ _ _ _ (RR1 n m mo co c l (M.apF n m co l p (q + 1)) p (q + 1 : Nat)) _ = _
        rw [RR1_step, decide_eq_false (by omega : ¬ ((q + 1 : Nat) : Int) < m)]
        rfl
  · simp only [Option.some.injEq] at h
    subst h
    rename_i p a mo c l n m co
    cases hk : (M.okRef n m co l p && decide (a.length ≤ 4194304)) with
    | false => rw [hk] at hp; cases hp
    | true =>
      rw [hk] at hp
      cases hp
      simp only [Bool.and_eq_true, decide_eq_true_eq] at hk
      obtain ⟨hk, hlen⟩ := hk
      obtain ⟨hA, p0, p1, hR⟩ := okRef_iff hk
      obtain ⟨n1, n2, m1, m2, hl, hc, hs, hz⟩ := okApp_iff hA
      refine loop_known (m := 0) (kp := keep 17 2) c5_ok noCall_ok ?_
      have stp : ∀ (j : Nat), (j : Int) < m → ∀ (a : List Int), Nat.ble (a.length + 1) 4294967296 = true → ∀ (R : Type) (K' : Kont R), (bif decide ((j : Int) < m) then (bif M.okRef1 n m co l p j then (bif Nat.ble (a.length + 1) 4294967296 && true then K' .normal (RR1 n m mo co c l (a ++ [M.sat ((16384 + M.dotZ n.toNat (M.pr (M.row n co (j : Int).toNat) (M.cutN l p (p + n)))).fdiv 32768)]) p (M.w64 (j + 1))) else none) else none) else none) = K' .normal (RR1 n m mo co c l (a ++ [M.apV (M.row n co j) (M.cutN l p (p + n))]) p (j + 1 : Nat)) := by
        intro j hj a ha R K'
        have h1 : M.okRef1 n m co l p j = true := by unfold M.okRef1; rw [hk, decide_eq_true (by omega), decide_eq_true hj]; rfl
        have e1 := cut_len (n := n) (by omega) p0 p1
        rw [h1, ha, decide_eq_true hj, w64_in (n := (j : Int) + 1) (by omega) (by omega), Int.toNat_natCast, Int.add_comm 16384]
        unfold M.apV
        rw [show (M.cutN l p (p + n)).length = n.toNat by omega]
        rfl
      have main := loop_rule (lo := 0) (kp := keep 17 2) (b := execK c5 17 0 (ntAt c5.P 17) noCall 0 none (bodyAt c5.P 17 2)) (K := fun ex st => some (ex, st)) (fun i => RR1 n m mo co c l (a ++ M.apF n m co l p i) p i) (fun i => i ≤ m.toNat) (fun i => m.toNat - i) (fun _ => (.exit 2, RR1 n m mo co c l (a ++ M.apF n m co l p m.toNat) p m.toNat)) (fun i hi => ?_) 0 (Nat.zero_le _)
      · rw [Int.toNat_of_nonneg (by omega)] at main; simp only [show a ++ M.apF n m co l p 0 = a from List.append_nil a] at main; exact main
      by_cases hlt : i < m.toNat
      · refine .inl ⟨i + 1, hlt, by omega, rfl, fun K' => ?_⟩
        show execK _ _ _ _ _ _ _ _ (RR1 n m mo co c l (a ++ M.apF n m co l p i) p i) _ = _
        rw [RR1_step]
        have hst := stp i (by omega) (a ++ M.apF n m co l p i) (by rw [List.length_append, apF_length]; exact Nat.ble_eq_true_of_le (by omega)) _ K'
        rw [decide_eq_true (by omega : (i : Int) < m)] at hst ⊢
        rw [List.append_assoc a (M.apF n m co l p i) [M.apV (M.row n co i) (M.cutN l p (p + n))], ← apF_snoc] at hst
        exact hst
      · have : i = m.toNat := by omega
        subst this
        refine .inr ⟨⟨2, .inl rfl⟩, fun K' => ?_⟩
        show execK _ _ _ _ _ _ _ _ (RR1 n m mo co c l (a ++ M.apF n m co l p m.toNat) p m.toNat) _ = _
        rw [RR1_step, decide_eq_false (by omega : ¬ (m.toNat : Int) < m)]
        rfl
  · cases h

theorem R0_step {R : Type} (n m mo : Int) (co : List Int) (c : Int) (l a : List Int) (p : Int) (K : Kont R) : execK c6 17 0 (ntAt c6.P 17) noCall 0 none (bodyAt c6.P 17 0) (R0 n m mo co c l a p) (kRes 0 (keep 17 0) K) = 
    (bif decide (p < l.length) then (bif M.okRef n m co l p then K .normal (R1 n m mo co c l (M.apF n m co l p m.toNat) (M.w64 (p + n))) else none) else K (.exit 0) (R0 n m mo co c l a p)) := by kernel_rfl
theorem R1_step {R : Type} (n m mo : Int) (co : List Int) (c : Int) (l a : List Int) (p : Int) (K : Kont R) : execK c6 17 0 (ntAt c6.P 17) noCall 0 none (bodyAt c6.P 17 0) (R1 n m mo co c l a p) (kRes 0 (keep 17 0) K) = 
    (bif decide (p < l.length) then (bif M.okRef n m co l p && decide (a.length ≤ 4194304) then K .normal (R1 n m mo co c l (a ++ M.apF n m co l p m.toNat) (M.w64 (p + n))) else none) else K (.exit 0) (R1 n m mo co c l a p)) := by kernel_rfl
theorem okRef_of {n m : Int} {co l : List Int} (h : M.okApp n m co l = true) {p : Int} (h0 : 0 ≤ p) (h1 : p + n ≤ l.length) : M.okRef n m co l p = true := by
  unfold M.okRef
  rw [h, decide_eq_true h0, decide_eq_true h1]
  rfl
def Rh (n m mo : Int) (co : List Int) (c : Int) (l : List Int) : Nat → St
  | 0 => R0 n m mo co c l [] 0
  | i + 1 => R1 n m mo co c l (M.apD n m co l (i + 1)) ((i + 1 : Nat) * n)
theorem Rh_next {R : Type} {n m : Int} (mo : Int) {co l : List Int} (c : Int) (h : M.okApp n m co l = true) {F : Nat} (hL : (l.length : Int) = F * n) (i : Nat) (hi : i < F) (K' : Kont R) :
    execK c6 17 0 (ntAt c6.P 17) noCall 0 none (bodyAt c6.P 17 0) (Rh n m mo co c l i) (kRes 0 (keep 17 0) K') = K' .normal (Rh n m mo co c l (i + 1)) := by
  obtain ⟨n1, n2, m1, m2, hl, hc, hs, hz⟩ := okApp_iff h
  obtain ⟨f0, f1, f2, f3, f4⟩ := frame_le n1 hL hi
  have hk := okRef_of h f0 f2
  cases i with
  | zero =>
    show execK c6 17 0 (ntAt c6.P 17) noCall 0 none (bodyAt c6.P 17 0) (R0 n m mo co c l [] 0) _ = _
    have e0 : ((0 : Nat) : Int) * n = 0 := by simp
    rw [e0] at hk f0 f1 f2 f3
    rw [R0_step, decide_eq_true (by omega : (0 : Int) < l.length), hk, w64_in (n := 0 + n) (by omega) (by omega)]
    show K' .normal (R1 n m mo co c l (M.apF n m co l 0 m.toNat) (0 + n)) = K' .normal (R1 n m mo co c l (M.apD n m co l (0 + 1)) ((0 + 1 : Nat) * n))
    rw [apD_snoc, e0, show M.apD n m co l 0 = [] from rfl, List.nil_append, f3]
  | succ i =>
    show execK c6 17 0 (ntAt c6.P 17) noCall 0 none (bodyAt c6.P 17 0) (R1 n m mo co c l (M.apD n m co l (i + 1)) ((i + 1 : Nat) * n)) _ = _
    have hb : (M.apD n m co l (i + 1)).length ≤ 4194304 := by
      rw [apD_length]
      have := Nat.mul_le_mul (show i + 1 ≤ 524288 by omega) (show m.toNat ≤ 8 by omega)
      omega
    rw [R1_step, decide_eq_true f1, hk, decide_eq_true hb, w64_in (n := _ + n) (by omega) (by omega), ← apD_snoc, ← f3]
    rfl

def l_R : Nat → St → Option (List (Bool × Ex × St))
  | 0, ⟨[(2, .ptr 0 0 3), (3, .ptr 1 0 2), (4, .ptr 2 0 2), (5, .int .i64 0), (6, .ptr 3 0 2), (7, .int .i64 0)], [(3, .fix (.cells [.int .i64 mo, .nilsl])), (2, .fix (.cells [.int .i64 0, .nilsl])), (1, .fix (.cells [.int .i64 c, .vi .i32 l])), (0, .fix (.cells [.int .i64 n, .int .i64 m, .vi .i64 co]))], 4⟩ => some [(M.okAll n m co l && decide (l.length = 0), .exit 0, R0 n m mo co c l [] 0), (M.okAll n m co l && decide (l.length ≠ 0), .exit 0, R1 n m mo co c l (M.apD n m co l (l.length / n.toNat)) l.length)]
  | _, _ => none
noncomputable def c7 : Cfg := c6.addLL 17 0 l_R
theorem c7_ok : CfgOK c7 := addLL_ok c6_ok (by kernel_rfl) fun lo st alts ex st' h hp => by
  unfold l_R at h
  split at h
  · simp only [Option.some.injEq] at h
    subst h
    rename_i mo c l n m co
    cases hk : M.okAll n m co l with
    | false => rw [hk] at hp; cases hp
    | true =>
      rw [hk] at hp
      obtain ⟨hA, F, hL, hF⟩ := okAll_iff hk
      obtain ⟨n1, n2, m1, m2, hl, hc, hs, hz⟩ := okApp_iff hA
      refine loop_known (m := 0) (kp := keep 17 0) c6_ok noCall_ok ?_
      have main := loop_rule (lo := 0) (kp := keep 17 0) (b := execK c6 17 0 (ntAt c6.P 17) noCall 0 none (bodyAt c6.P 17 0)) (K := fun ex st => some (ex, st)) (fun i => Rh n m mo co c l i) (fun i => i ≤ F) (fun i => F - i) (fun _ => (.exit 0, Rh n m mo co c l F)) (fun i hi => ?_) 0 (Nat.zero_le _)
      · rw [← hF] at hp
        by_cases h0 : l.length = 0
        · have : F = 0 := by
            rcases Nat.eq_zero_or_pos F with h | h
            · exact h
            · have := (frame_le n1 hL h).2.2.2.2
              omega
          subst this
          rw [decide_eq_true h0, decide_eq_false (by omega)] at hp
          cases hp
          exact main
        · rw [decide_eq_false h0, decide_eq_true h0] at hp
          cases hp
          cases F with
          | zero => exfalso; rw [show ((0 : Nat) : Int) * n = 0 by simp] at hL; omega
          | succ F =>
            rw [hL]
            exact main
      by_cases hlt : i < F
      · exact .inl ⟨i + 1, hlt, by omega, rfl, fun K' => Rh_next mo c hA hL i hlt K'⟩
      · have : i = F := by omega
        subst this
        refine .inr ⟨⟨0, .inl rfl⟩, fun K' => ?_⟩
        cases i with
        | zero =>
          show execK c6 17 0 (ntAt c6.P 17) noCall 0 none (bodyAt c6.P 17 0) (R0 n m mo co c l [] 0) _ = _
          rw [R0_step, decide_eq_false (by rw [hL]; simp : ¬ (0 : Int) < l.length)]
          rfl
        | succ i =>
          show execK c6 17 0 (ntAt c6.P 17) noCall 0 none (bodyAt c6.P 17 0) (R1 n m mo co c l (M.apD n m co l (i + 1)) ((i + 1 : Nat) * n)) _ = _
          rw [R1_step, decide_eq_false (by omega : ¬ ((i + 1 : Nat) : Int) * n < l.length)]
          rfl
  · cases h

theorem e_rApply (n m : Int) (co : List Int) (c : Int) (l : List Int) (hc : (decide (co.length < 4294967296) && decide (l.length < 4294967296)) = true) : Ev (callB c7 noCall 0 17 [.agg [.int .i64 n, .int .i64 m, .vi .i64 co], .agg [.int .i64 c, .vi .i32 l]] [] 0) (.tuple [.agg [.int .i64 (M.apO n m co c l), .vi .i32 (M.apR n m co c l)], .int .i64 (M.apE n m co c l)]) := by
  rw [show callB c7 noCall 0 17 [.agg [.int .i64 n, .int .i64 m, .vi .i64 co], .agg [.int .i64 c, .vi .i32 l]] [] 0 = (bif decide (co.length < 4294967296) && true then (bif !!M.mtxV n m co then (bif decide (l.length < 4294967296) && true then (bif !M.valid c l then some (.tuple [.agg [.int .i64 0, .nilsl], .int .i64 1], [], 0) else bif c != n then some (.tuple [.agg [.int .i64 0, .nilsl], .int .i64 11], [], 0) else (bif M.okAll n m co l && decide (l.length = 0) then some (.tuple [.agg [.int .i64 m, .nilsl], .int .i64 0], [], 0) else bif M.okAll n m co l && decide (l.length ≠ 0) then some (.tuple [.agg [.int .i64 m, .vi .i32 (M.apD n m co l (l.length / n.toNat))], .int .i64 0], [], 0) else none)) else none) else some (.tuple [.agg [.int .i64 0, .nilsl], .int .i64 1], [], 0)) else none) by kernel_rfl]
  rw [Bool.and_eq_true] at hc
  obtain ⟨hc1, hc2⟩ := hc
  rw [hc1, hc2]
  unfold M.apO M.apR M.apE
  cases hm : M.mtxV n m co with
  | false => exact ⟨_, [], 0, rfl, rfl, .tuple (.cons (.agg (.cons (.refl _) (.cons (.nil _) (.refl _)))) (.refl _))⟩
  | true =>
  cases hv : M.valid c l with
  | false => exact ⟨_, [], 0, rfl, rfl, .tuple (.cons (.agg (.cons (.refl _) (.cons (.nil _) (.refl _)))) (.refl _))⟩
  | true =>
  by_cases hcn : c = n
  · subst hcn
    have hA := okAll_of (of_decide_eq_true hc2) hm hv
    rw [show (c != c) = false by simp, hA]
    by_cases h0 : l.length = 0
    · rw [decide_eq_true h0]
      have : l = [] := List.length_eq_zero_iff.1 h0
      subst this
      have he : M.apD c m co [] (([] : List Int).length / c.toNat) = [] := by simp [M.apD]
      refine ⟨_, [], 0, rfl, rfl, ?_⟩
      show Le2 (.tuple [.agg [.int .i64 m, .nilsl], .int .i64 0]) (.tuple [.agg [.int .i64 m, .vi .i32 (M.apD c m co [] (([] : List Int).length / c.toNat))], .int .i64 0])
      rw [he]
      exact .tuple (.cons (.agg (.cons (.refl _) (.cons (.nil _) (.refl _)))) (.refl _))
    · rw [decide_eq_false h0, decide_eq_true h0]
      exact ⟨_, [], 0, rfl, rfl, .refl _⟩
  · rw [show (c != n) = true by simpa using hcn]
    exact ⟨_, [], 0, rfl, rfl, .tuple (.cons (.agg (.cons (.refl _) (.cons (.nil _) (.refl _)))) (.refl _))⟩
def m_rApply : List AV → Option (Bool × AV)
  | [.agg [.int .i64 n, .int .i64 m, co_], .agg [.int .i64 c, l_]] => (asVi .i64 co_).bind fun co => (asVi .i32 l_).bind fun l => some ((decide (co.length < 4294967296) && decide (l.length < 4294967296)), .tuple [.agg [.int .i64 (M.apO n m co c l), .vi .i32 (M.apR n m co c l)], .int .i64 (M.apE n m co c l)])
  | _ => none
noncomputable def c8 : Cfg := c7.add 17 m_rApply
theorem c8_ok : CfgOK c8 := add_ok c7_ok fun xs v h => by
  unfold m_rApply at h; split at h
  · obtain ⟨co, h_co, h⟩ := Option.bind_eq_some_iff.1 h
    obtain ⟨l, h_l, h⟩ := Option.bind_eq_some_iff.1 h
    simp only [Option.some.injEq, Prod.mk.injEq] at h; obtain ⟨h1, rfl⟩ := h
    exact Ev.pure c7_ok noCall_ok (e_rApply _ _ _ _ _ h1) (.cons (.agg (.cons (.refl _) (.cons (.refl _) (.cons (asVi_le h_co) (.refl _))))) (.cons (.agg (.cons (.refl _) (.cons (asVi_le h_l) (.refl _)))) (.refl _)))
  · cases h

end Go.Proofs.Ytplcpdjabjjfiaa
