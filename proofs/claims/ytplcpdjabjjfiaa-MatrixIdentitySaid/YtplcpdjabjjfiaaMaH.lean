/- The models of matrices: products, the program's columns. -/
import Derived.Test.YtplcpdjabjjfiaaMaG
namespace Go.Proofs.Ytplcpdjabjjfiaa
open Am
set_option maxRecDepth 100000
set_option linter.unusedVariables false
set_option linter.unusedSimpArgs false
set_option maxHeartbeats 4000000

theorem dotZ_congr {f g : Nat → Int} : ∀ (k : Nat), (∀ i, i < k → f i = g i) → M.dotZ k f = M.dotZ k g
  | 0, _ => rfl
  | k + 1, h => by
    unfold M.dotZ
    rw [dotZ_congr k fun i hi => h i (by omega), h k (by omega)]
theorem row_getD {n : Int} {co : List Int} {j i : Nat} (hi : i < n.toNat) : (M.row n co j).getD i 0 = co.getD (j * n.toNat + i) 0 := by
  unfold M.row
  simp only [List.getD_eq_getElem?_getD]
  rw [List.getElem?_take_of_lt hi, List.getElem?_drop]
theorem row_sub {n : Int} {co : List Int} {j : Nat} (h : co.all M.inC = true) : (M.row n co j).all M.inC = true :=
  all_sub h fun x hx => List.mem_of_mem_drop (List.mem_of_mem_take hx)
theorem row_full {n m : Int} {co : List Int} {j : Nat} (n1 : 1 ≤ n) (hl : (co.length : Int) = n * m) (hj : (j : Int) < m) : ((M.row n co j).length : Int) = n := by
  have hm : ((j + 1 : Nat) : Int) * n ≤ m * n := Int.mul_le_mul_of_nonneg_right (by omega) (by omega)
  exact row_len (by omega) (by rw [hl, Int.mul_comm n m]; exact hm)
theorem okCk_of {n ka : Int} {a : List Int} {kb m : Int} {b : List Int} (h : M.okMul n ka a kb m b = true) {r c : Nat} (hr : (r : Int) < m) (hc : (c : Int) < n) :
    M.okCk (M.rowsL n ka a) (M.row kb b r) (M.row kb b r).length c = true := by
  obtain ⟨⟨n1, n2, k1, k2, hla, hca⟩, ⟨j1, j2, m1, m2, hlb, hcb⟩, hkk2⟩ := okMul_iff h
  have e := row_full j1 hlb hr
  have hall : (M.rowsL n ka a).all (fun r => r.all M.inC && decide ((c : Int) < r.length)) = true := by
    rw [List.all_eq_true]
    intro x hx
    unfold M.rowsL at hx
    rw [List.mem_map] at hx
    obtain ⟨i, hi, rfl⟩ := hx
    rw [List.mem_range] at hi
    have e2 := row_full (co := a) (j := i) n1 hla (by omega)
    rw [row_sub hca, decide_eq_true (by omega)]
    rfl
  unfold M.okCk
  rw [decide_eq_true rfl, decide_eq_true (by omega), decide_eq_true (by rw [rowsL_length]; omega), row_sub hcb, hall, decide_eq_true (by omega)]
  rfl
theorem mulV_of {n ka : Int} {a : List Int} {kb m : Int} {b : List Int} (h : M.okMul n ka a kb m b = true) {r c : Nat} (hr : (r : Int) < m) (hc : (c : Int) < n) :
    M.clampC ((M.w64 (M.dotZ (M.row kb b r).length (M.kpr (M.rowsL n ka a) (M.row kb b r) c) + 16384)).fdiv 32768) = M.mulV n a kb b r c := by
  obtain ⟨⟨n1, n2, k1, k2, hla, hca⟩, ⟨j1, j2, m1, m2, hlb, hcb⟩, hkk2⟩ := okMul_iff h
  have e := row_full j1 hlb hr
  have hd : M.dotZ (M.row kb b r).length (M.kpr (M.rowsL n ka a) (M.row kb b r) c) = M.dotZ kb.toNat (M.mpr n a kb b r c) := by
    rw [show (M.row kb b r).length = kb.toNat by omega]
    refine dotZ_congr _ fun i hi => ?_
    unfold M.kpr M.mpr
    rw [rowsL_getD (by omega), row_getD hi, row_getD (by omega)]
  have b1 := mdot_small h hr hc (i := kb.toNat) (by omega)
  rw [hd, w64_in (by omega) (by omega)]
  rfl
theorem putR_zero (n : Int) (a : List Int) (kb : Int) (b : List Int) (r : Nat) (L : List Int) : M.putR n a kb b r 0 L = L := by
  unfold M.putR
  rw [show M.mulF n a kb b r 0 = [] from rfl, List.append_nil, Nat.add_zero, List.take_append_drop]
theorem putR_len {n : Int} {a : List Int} {kb : Int} {b : List Int} {r i : Nat} {L : List Int} (h : r * n.toNat + i ≤ L.length) : (M.putR n a kb b r i L).length = L.length := by
  unfold M.putR
  simp only [List.length_append, List.length_take, List.length_drop, mulF_length]
  omega
theorem putR_next {n : Int} {a : List Int} {kb : Int} {b : List Int} {r i : Nat} {L : List Int} (h : r * n.toNat + i < L.length) : (M.putR n a kb b r i L).set (r * n.toNat + i) (M.mulV n a kb b r i) = M.putR n a kb b r (i + 1) L := by
  unfold M.putR
  have h1 : (L.take (r * n.toNat) ++ M.mulF n a kb b r i).length = r * n.toNat + i := by
    rw [List.length_append, List.length_take, mulF_length]; omega
  rw [List.set_append_right _ _ (by omega), h1, Nat.sub_self, mulF_snoc]
  have h2 : L.drop (r * n.toNat + i) = L[r * n.toNat + i] :: L.drop (r * n.toNat + (i + 1)) := by
    rw [List.drop_eq_getElem_cons h]; rfl
  rw [h2, List.set_cons_zero]
  simp
theorem okCq_iff {n ka : Int} {a : List Int} {kb m : Int} {b : List Int} {ra rb : List (List Int)} {r : Int} {f w : Nat} {wn : Int} {L : List Int} (h : M.okCq n ka a kb m b ra rb r f w wn L = true) :
    M.okMul n ka a kb m b = true ∧ 0 ≤ r ∧ r < m ∧ ra = M.rowsL n ka a ∧ rb = M.rowsL kb m b ∧ f = r.toNat * n.toNat ∧ w = n.toNat ∧ wn = n ∧ (L.length : Int) = n * m := by
  unfold M.okCq M.okMulR at h
  simp only [Bool.and_eq_true, decide_eq_true_eq] at h
  obtain ⟨⟨⟨⟨⟨⟨⟨⟨h1, h2⟩, h3⟩, h4⟩, h5⟩, h6⟩, h7⟩, h8⟩, h9⟩ := h
  exact ⟨h1, h2, h3, h4, h5, h6, h7, h8, h9⟩
theorem in_row {n m : Int} {L : List Int} {r i : Nat} (n1 : 1 ≤ n) (hL : (L.length : Int) = n * m) (hr : (r : Int) < m) (hi : i < n.toNat) : r * n.toNat + i < L.length := by
  obtain ⟨k, rfl⟩ := Int.eq_ofNat_of_zero_le (show 0 ≤ n by omega)
  have a1 : ((r + 1 : Nat) : Int) * k ≤ m * k := Int.mul_le_mul_of_nonneg_right (by omega) (by omega)
  have a3 : ((r + 1 : Nat) : Int) * k = (r : Int) * k + k := by rw [show ((r + 1 : Nat) : Int) = (r : Int) + 1 by omega, Int.add_mul, Int.one_mul]
  have a5 : ((r * k : Nat) : Int) = (r : Int) * k := Int.natCast_mul r k
  rw [Int.mul_comm (k : Int) m] at hL
  rw [Int.toNat_natCast] at hi ⊢
  omega

theorem gC1_step {R : Type} (ra rb : List (List Int)) (r : Int) (f w : Nat) (jj rr : Int) (fz wz : Nat) (wn c : Int) (o0 w0 : Nat) (L : List Int) (n5 m5 : Int) (k5 : Nat) (kb m : Int) (b : List Int) (n ka : Int) (a : List Int) (K : Kont R) : execK q3 30 0 (ntAt q3.P 30) noCall 0 none (bodyAt q3.P 30 2) (gC1 ra rb r f w jj rr fz wz wn c o0 w0 L n5 m5 k5 kb m b n ka a) (kRes 0 (keep 30 2) K) =
    (bif decide (c < wn) then (bif decide (0 ≤ r) && decide (r < rb.length) && true then (bif M.okCk ra (rb.getD r.toNat []) ((rb.getD r.toNat [])).length c then (bif decide (0 ≤ c) && decide (c < w) && true then K .normal (gC1 ra rb r f w jj rr fz wz wn (M.w64 (c + 1)) o0 w0 (L.set (f + c.toNat * 1) (M.clampC ((M.w64 (M.dotZ ((rb.getD r.toNat [])).length (M.kpr ra (rb.getD r.toNat []) c.toNat) + 16384)).fdiv 32768))) n5 m5 k5 kb m b n ka a) else none) else none) else none) else K (.exit 2) (gC1 ra rb r f w jj rr fz wz wn c o0 w0 L n5 m5 k5 kb m b n ka a)) := by kernel_rfl
theorem gC2_step {R : Type} (ra rb : List (List Int)) (r : Int) (f w : Nat) (jj rr : Int) (fz wz : Nat) (wn c : Int) (o0 w0 o1 w1 : Nat) (L : List Int) (n5 m5 : Int) (k5 : Nat) (kb m : Int) (b : List Int) (n ka : Int) (a : List Int) (K : Kont R) : execK q3 30 0 (ntAt q3.P 30) noCall 0 none (bodyAt q3.P 30 2) (gC2 ra rb r f w jj rr fz wz wn c o0 w0 o1 w1 L n5 m5 k5 kb m b n ka a) (kRes 0 (keep 30 2) K) =
    (bif decide (c < wn) then (bif decide (0 ≤ r) && decide (r < rb.length) && true then (bif M.okCk ra (rb.getD r.toNat []) ((rb.getD r.toNat [])).length c then (bif decide (0 ≤ c) && decide (c < w) && true then K .normal (gC2 ra rb r f w jj rr fz wz wn (M.w64 (c + 1)) o0 w0 o1 w1 (L.set (f + c.toNat * 1) (M.clampC ((M.w64 (M.dotZ ((rb.getD r.toNat [])).length (M.kpr ra (rb.getD r.toNat []) c.toNat) + 16384)).fdiv 32768))) n5 m5 k5 kb m b n ka a) else none) else none) else none) else K (.exit 2) (gC2 ra rb r f w jj rr fz wz wn c o0 w0 o1 w1 L n5 m5 k5 kb m b n ka a)) := by kernel_rfl
theorem gC3_step {R : Type} (ra rb : List (List Int)) (r : Int) (f w : Nat) (jj rr : Int) (fz wz : Nat) (wn c : Int) (o0 w0 o1 w1 o2 w2 : Nat) (L : List Int) (n5 m5 : Int) (k5 : Nat) (kb m : Int) (b : List Int) (n ka : Int) (a : List Int) (K : Kont R) : execK q3 30 0 (ntAt q3.P 30) noCall 0 none (bodyAt q3.P 30 2) (gC3 ra rb r f w jj rr fz wz wn c o0 w0 o1 w1 o2 w2 L n5 m5 k5 kb m b n ka a) (kRes 0 (keep 30 2) K) =
    (bif decide (c < wn) then (bif decide (0 ≤ r) && decide (r < rb.length) && true then (bif M.okCk ra (rb.getD r.toNat []) ((rb.getD r.toNat [])).length c then (bif decide (0 ≤ c) && decide (c < w) && true then K .normal (gC3 ra rb r f w jj rr fz wz wn (M.w64 (c + 1)) o0 w0 o1 w1 o2 w2 (L.set (f + c.toNat * 1) (M.clampC ((M.w64 (M.dotZ ((rb.getD r.toNat [])).length (M.kpr ra (rb.getD r.toNat []) c.toNat) + 16384)).fdiv 32768))) n5 m5 k5 kb m b n ka a) else none) else none) else none) else K (.exit 2) (gC3 ra rb r f w jj rr fz wz wn c o0 w0 o1 w1 o2 w2 L n5 m5 k5 kb m b n ka a)) := by kernel_rfl
theorem gC4_step {R : Type} (ra rb : List (List Int)) (r : Int) (f w : Nat) (jj rr : Int) (fz wz : Nat) (wn c : Int) (o0 w0 o1 w1 o2 w2 o3 w3 : Nat) (L : List Int) (n5 m5 : Int) (k5 : Nat) (kb m : Int) (b : List Int) (n ka : Int) (a : List Int) (K : Kont R) : execK q3 30 0 (ntAt q3.P 30) noCall 0 none (bodyAt q3.P 30 2) (gC4 ra rb r f w jj rr fz wz wn c o0 w0 o1 w1 o2 w2 o3 w3 L n5 m5 k5 kb m b n ka a) (kRes 0 (keep 30 2) K) =
    (bif decide (c < wn) then (bif decide (0 ≤ r) && decide (r < rb.length) && true then (bif M.okCk ra (rb.getD r.toNat []) ((rb.getD r.toNat [])).length c then (bif decide (0 ≤ c) && decide (c < w) && true then K .normal (gC4 ra rb r f w jj rr fz wz wn (M.w64 (c + 1)) o0 w0 o1 w1 o2 w2 o3 w3 (L.set (f + c.toNat * 1) (M.clampC ((M.w64 (M.dotZ ((rb.getD r.toNat [])).length (M.kpr ra (rb.getD r.toNat []) c.toNat) + 16384)).fdiv 32768))) n5 m5 k5 kb m b n ka a) else none) else none) else none) else K (.exit 2) (gC4 ra rb r f w jj rr fz wz wn c o0 w0 o1 w1 o2 w2 o3 w3 L n5 m5 k5 kb m b n ka a)) := by kernel_rfl
theorem gC5_step {R : Type} (ra rb : List (List Int)) (r : Int) (f w : Nat) (jj rr : Int) (fz wz : Nat) (wn c : Int) (o0 w0 o1 w1 o2 w2 o3 w3 o4 w4 : Nat) (L : List Int) (n5 m5 : Int) (k5 : Nat) (kb m : Int) (b : List Int) (n ka : Int) (a : List Int) (K : Kont R) : execK q3 30 0 (ntAt q3.P 30) noCall 0 none (bodyAt q3.P 30 2) (gC5 ra rb r f w jj rr fz wz wn c o0 w0 o1 w1 o2 w2 o3 w3 o4 w4 L n5 m5 k5 kb m b n ka a) (kRes 0 (keep 30 2) K) =
    (bif decide (c < wn) then (bif decide (0 ≤ r) && decide (r < rb.length) && true then (bif M.okCk ra (rb.getD r.toNat []) ((rb.getD r.toNat [])).length c then (bif decide (0 ≤ c) && decide (c < w) && true then K .normal (gC5 ra rb r f w jj rr fz wz wn (M.w64 (c + 1)) o0 w0 o1 w1 o2 w2 o3 w3 o4 w4 (L.set (f + c.toNat * 1) (M.clampC ((M.w64 (M.dotZ ((rb.getD r.toNat [])).length (M.kpr ra (rb.getD r.toNat []) c.toNat) + 16384)).fdiv 32768))) n5 m5 k5 kb m b n ka a) else none) else none) else none) else K (.exit 2) (gC5 ra rb r f w jj rr fz wz wn c o0 w0 o1 w1 o2 w2 o3 w3 o4 w4 L n5 m5 k5 kb m b n ka a)) := by kernel_rfl
theorem gC6_step {R : Type} (ra rb : List (List Int)) (r : Int) (f w : Nat) (jj rr : Int) (fz wz : Nat) (wn c : Int) (o0 w0 o1 w1 o2 w2 o3 w3 o4 w4 o5 w5 : Nat) (L : List Int) (n5 m5 : Int) (k5 : Nat) (kb m : Int) (b : List Int) (n ka : Int) (a : List Int) (K : Kont R) : execK q3 30 0 (ntAt q3.P 30) noCall 0 none (bodyAt q3.P 30 2) (gC6 ra rb r f w jj rr fz wz wn c o0 w0 o1 w1 o2 w2 o3 w3 o4 w4 o5 w5 L n5 m5 k5 kb m b n ka a) (kRes 0 (keep 30 2) K) =
    (bif decide (c < wn) then (bif decide (0 ≤ r) && decide (r < rb.length) && true then (bif M.okCk ra (rb.getD r.toNat []) ((rb.getD r.toNat [])).length c then (bif decide (0 ≤ c) && decide (c < w) && true then K .normal (gC6 ra rb r f w jj rr fz wz wn (M.w64 (c + 1)) o0 w0 o1 w1 o2 w2 o3 w3 o4 w4 o5 w5 (L.set (f + c.toNat * 1) (M.clampC ((M.w64 (M.dotZ ((rb.getD r.toNat [])).length (M.kpr ra (rb.getD r.toNat []) c.toNat) + 16384)).fdiv 32768))) n5 m5 k5 kb m b n ka a) else none) else none) else none) else K (.exit 2) (gC6 ra rb r f w jj rr fz wz wn c o0 w0 o1 w1 o2 w2 o3 w3 o4 w4 o5 w5 L n5 m5 k5 kb m b n ka a)) := by kernel_rfl
theorem gC7_step {R : Type} (ra rb : List (List Int)) (r : Int) (f w : Nat) (jj rr : Int) (fz wz : Nat) (wn c : Int) (o0 w0 o1 w1 o2 w2 o3 w3 o4 w4 o5 w5 o6 w6 : Nat) (L : List Int) (n5 m5 : Int) (k5 : Nat) (kb m : Int) (b : List Int) (n ka : Int) (a : List Int) (K : Kont R) : execK q3 30 0 (ntAt q3.P 30) noCall 0 none (bodyAt q3.P 30 2) (gC7 ra rb r f w jj rr fz wz wn c o0 w0 o1 w1 o2 w2 o3 w3 o4 w4 o5 w5 o6 w6 L n5 m5 k5 kb m b n ka a) (kRes 0 (keep 30 2) K) =
    (bif decide (c < wn) then (bif decide (0 ≤ r) && decide (r < rb.length) && true then (bif M.okCk ra (rb.getD r.toNat []) ((rb.getD r.toNat [])).length c then (bif decide (0 ≤ c) && decide (c < w) && true then K .normal (gC7 ra rb r f w jj rr fz wz wn (M.w64 (c + 1)) o0 w0 o1 w1 o2 w2 o3 w3 o4 w4 o5 w5 o6 w6 (L.set (f + c.toNat * 1) (M.clampC ((M.w64 (M.dotZ ((rb.getD r.toNat [])).length (M.kpr ra (rb.getD r.toNat []) c.toNat) + 16384)).fdiv 32768))) n5 m5 k5 kb m b n ka a) else none) else none) else none) else K (.exit 2) (gC7 ra rb r f w jj rr fz wz wn c o0 w0 o1 w1 o2 w2 o3 w3 o4 w4 o5 w5 o6 w6 L n5 m5 k5 kb m b n ka a)) := by kernel_rfl
theorem gC8_step {R : Type} (ra rb : List (List Int)) (r : Int) (f w : Nat) (jj rr : Int) (fz wz : Nat) (wn c : Int) (o0 w0 o1 w1 o2 w2 o3 w3 o4 w4 o5 w5 o6 w6 o7 w7 : Nat) (L : List Int) (n5 m5 : Int) (k5 : Nat) (kb m : Int) (b : List Int) (n ka : Int) (a : List Int) (K : Kont R) : execK q3 30 0 (ntAt q3.P 30) noCall 0 none (bodyAt q3.P 30 2) (gC8 ra rb r f w jj rr fz wz wn c o0 w0 o1 w1 o2 w2 o3 w3 o4 w4 o5 w5 o6 w6 o7 w7 L n5 m5 k5 kb m b n ka a) (kRes 0 (keep 30 2) K) =
    (bif decide (c < wn) then (bif decide (0 ≤ r) && decide (r < rb.length) && true then (bif M.okCk ra (rb.getD r.toNat []) ((rb.getD r.toNat [])).length c then (bif decide (0 ≤ c) && decide (c < w) && true then K .normal (gC8 ra rb r f w jj rr fz wz wn (M.w64 (c + 1)) o0 w0 o1 w1 o2 w2 o3 w3 o4 w4 o5 w5 o6 w6 o7 w7 (L.set (f + c.toNat * 1) (M.clampC ((M.w64 (M.dotZ ((rb.getD r.toNat [])).length (M.kpr ra (rb.getD r.toNat []) c.toNat) + 16384)).fdiv 32768))) n5 m5 k5 kb m b n ka a) else none) else none) else none) else K (.exit 2) (gC8 ra rb r f w jj rr fz wz wn c o0 w0 o1 w1 o2 w2 o3 w3 o4 w4 o5 w5 o6 w6 o7 w7 L n5 m5 k5 kb m b n ka a)) := by kernel_rfl
def l_gC0 : Nat → St → Option (List (Bool × Ex × St))
  | 0, ⟨[(2, .ptr 0 0 3), (3, .ptr 1 0 3), (4, .ptr 2 0 3), (5, .int .i64 0), (6, .ptr 5 0 3), (7, .vr .i64 ra), (8, .vr .i64 rb), (9, .int .i64 r), (10, .sl 4 1 f w), (40, .sl 7 1 0 1), (41, .int .i64 jj), (42, .int .i64 rr), (47, .sl 4 1 fz wz), (48, .int .i64 wn), (49, .int .i64 0)], [(7, .ro (.cells [.sl 4 1 o0 w0])), (4, .fix (.ints .i64 L)), (5, .fix (.cells [.int .i64 n5, .int .i64 m5, .sl 4 1 0 k5])), (2, .fix (.cells [.int .i64 0, .int .i64 0, .nilsl])), (1, .fix (.cells [.int .i64 kb, .int .i64 m, .vi .i64 b])), (0, .fix (.cells [.int .i64 n, .int .i64 ka, .vi .i64 a]))], 8⟩ => some [(M.okCq n ka a kb m b ra rb r f w wn L, .exit 2, gC1 ra rb r f w jj rr fz wz wn wn o0 w0 (M.putR n a kb b r.toNat n.toNat L) n5 m5 k5 kb m b n ka a)]
  | lo, st => none
theorem h_gC0 : ∀ lo st alts ex st', l_gC0 lo st = some alts → pickL alts = some (ex, st') → LoopEq q3 30 2 lo st ex st' := by
  intro lo st alts ex st' h hp
  unfold l_gC0 at h
  split at h
  · simp only [Option.some.injEq] at h
    subst h
    rename_i ra rb r f w jj rr fz wz wn o0 w0 L n5 m5 k5 kb m b n ka a
    cases hk : M.okCq n ka a kb m b ra rb r f w wn L with
    | false => rw [hk] at hp; cases hp
    | true =>
      rw [hk] at hp
      cases hp
      obtain ⟨hM, r0, r1, rfl, rfl, rfl, rfl, rfl, hL⟩ := okCq_iff hk
      obtain ⟨⟨n1, n2, k1, k2, hla, hca⟩, ⟨j1, j2, m1, m2, hlb, hcb⟩, hkk2⟩ := okMul_iff hM
      obtain ⟨r, rfl⟩ := Int.eq_ofNat_of_zero_le r0
      rw [Int.toNat_natCast]
      refine loop_known (m := 0) (kp := keep 30 2) q3_ok noCall_ok ?_
      have main := loop_rule (lo := 0) (kp := keep 30 2) (b := execK q3 30 0 (ntAt q3.P 30) noCall 0 none (bodyAt q3.P 30 2)) (K := fun ex st => some (ex, st)) (fun i : Nat => gC1 (M.rowsL wn ka a) (M.rowsL kb m b) r (r * wn.toNat) wn.toNat jj rr fz wz wn i o0 w0 (M.putR wn a kb b r i L) n5 m5 k5 kb m b wn ka a) (fun i => i ≤ wn.toNat) (fun i => wn.toNat - i) (fun _ => (.exit 2, gC1 (M.rowsL wn ka a) (M.rowsL kb m b) r (r * wn.toNat) wn.toNat jj rr fz wz wn wn.toNat o0 w0 (M.putR wn a kb b r wn.toNat L) n5 m5 k5 kb m b wn ka a)) (fun i hi => ?_) 0 (Nat.zero_le _)
      · simp only [putR_zero] at main
        rw [show (wn.toNat : Int) = wn by omega] at main
        exact main
      by_cases hlt : i < wn.toNat
      · refine .inl ⟨i + 1, hlt, by omega, rfl, fun K' => ?_⟩
        have hir := in_row n1 hL r1 hlt
        rw [gC1_step, decide_eq_true (by omega : (i : Int) < wn), decide_eq_true (by omega : (0 : Int) ≤ r), decide_eq_true (by rw [rowsL_length]; omega : (r : Int) < (M.rowsL kb m b).length), Int.toNat_natCast, rowsL_getD r1, okCk_of hM r1 (by omega), decide_eq_true (by omega : (0 : Int) ≤ i), decide_eq_true (by omega : (i : Int) < (wn.toNat : Int)), Int.toNat_natCast, mulV_of hM r1 (by omega), Nat.mul_one, putR_next hir, w64_in (n := (i : Int) + 1) (by omega) (by omega)]
        rfl
      · have : i = wn.toNat := by omega
        subst this
        refine .inr ⟨⟨2, .inl rfl⟩, fun K' => ?_⟩
        rw [gC1_step, decide_eq_false (by omega : ¬ (wn.toNat : Int) < wn)]
        rfl
  · cases h
def l_gC1 : Nat → St → Option (List (Bool × Ex × St))
  | 0, ⟨[(2, .ptr 0 0 3), (3, .ptr 1 0 3), (4, .ptr 2 0 3), (5, .int .i64 0), (6, .ptr 5 0 3), (7, .vr .i64 ra), (8, .vr .i64 rb), (9, .int .i64 r), (10, .sl 4 1 f w), (40, .sl 7 1 0 2), (41, .int .i64 jj), (42, .int .i64 rr), (47, .sl 4 1 fz wz), (48, .int .i64 wn), (49, .int .i64 0)], [(7, .ro (.cells [.sl 4 1 o0 w0, .sl 4 1 o1 w1])), (4, .fix (.ints .i64 L)), (5, .fix (.cells [.int .i64 n5, .int .i64 m5, .sl 4 1 0 k5])), (2, .fix (.cells [.int .i64 0, .int .i64 0, .nilsl])), (1, .fix (.cells [.int .i64 kb, .int .i64 m, .vi .i64 b])), (0, .fix (.cells [.int .i64 n, .int .i64 ka, .vi .i64 a]))], 8⟩ => some [(M.okCq n ka a kb m b ra rb r f w wn L, .exit 2, gC2 ra rb r f w jj rr fz wz wn wn o0 w0 o1 w1 (M.putR n a kb b r.toNat n.toNat L) n5 m5 k5 kb m b n ka a)]
  | lo, st => l_gC0 lo st
theorem h_gC1 : ∀ lo st alts ex st', l_gC1 lo st = some alts → pickL alts = some (ex, st') → LoopEq q3 30 2 lo st ex st' := by
  intro lo st alts ex st' h hp
  unfold l_gC1 at h
  split at h
  · simp only [Option.some.injEq] at h
    subst h
    rename_i ra rb r f w jj rr fz wz wn o0 w0 o1 w1 L n5 m5 k5 kb m b n ka a
    cases hk : M.okCq n ka a kb m b ra rb r f w wn L with
    | false => rw [hk] at hp; cases hp
    | true =>
      rw [hk] at hp
      cases hp
      obtain ⟨hM, r0, r1, rfl, rfl, rfl, rfl, rfl, hL⟩ := okCq_iff hk
      obtain ⟨⟨n1, n2, k1, k2, hla, hca⟩, ⟨j1, j2, m1, m2, hlb, hcb⟩, hkk2⟩ := okMul_iff hM
      obtain ⟨r, rfl⟩ := Int.eq_ofNat_of_zero_le r0
      rw [Int.toNat_natCast]
      refine loop_known (m := 0) (kp := keep 30 2) q3_ok noCall_ok ?_
      have main := loop_rule (lo := 0) (kp := keep 30 2) (b := execK q3 30 0 (ntAt q3.P 30) noCall 0 none (bodyAt q3.P 30 2)) (K := fun ex st => some (ex, st)) (fun i : Nat => gC2 (M.rowsL wn ka a) (M.rowsL kb m b) r (r * wn.toNat) wn.toNat jj rr fz wz wn i o0 w0 o1 w1 (M.putR wn a kb b r i L) n5 m5 k5 kb m b wn ka a) (fun i => i ≤ wn.toNat) (fun i => wn.toNat - i) (fun _ => (.exit 2, gC2 (M.rowsL wn ka a) (M.rowsL kb m b) r (r * wn.toNat) wn.toNat jj rr fz wz wn wn.toNat o0 w0 o1 w1 (M.putR wn a kb b r wn.toNat L) n5 m5 k5 kb m b wn ka a)) (fun i hi => ?_) 0 (Nat.zero_le _)
      · simp only [putR_zero] at main
        rw [show (wn.toNat : Int) = wn by omega] at main
        exact main
      by_cases hlt : i < wn.toNat
      · refine .inl ⟨i + 1, hlt, by omega, rfl, fun K' => ?_⟩
        have hir := in_row n1 hL r1 hlt
        rw [gC2_step, decide_eq_true (by omega : (i : Int) < wn), decide_eq_true (by omega : (0 : Int) ≤ r), decide_eq_true (by rw [rowsL_length]; omega : (r : Int) < (M.rowsL kb m b).length), Int.toNat_natCast, rowsL_getD r1, okCk_of hM r1 (by omega), decide_eq_true (by omega : (0 : Int) ≤ i), decide_eq_true (by omega : (i : Int) < (wn.toNat : Int)), Int.toNat_natCast, mulV_of hM r1 (by omega), Nat.mul_one, putR_next hir, w64_in (n := (i : Int) + 1) (by omega) (by omega)]
        rfl
      · have : i = wn.toNat := by omega
        subst this
        refine .inr ⟨⟨2, .inl rfl⟩, fun K' => ?_⟩
        rw [gC2_step, decide_eq_false (by omega : ¬ (wn.toNat : Int) < wn)]
        rfl
  · exact h_gC0 _ _ _ _ _ h hp
def l_gC2 : Nat → St → Option (List (Bool × Ex × St))
  | 0, ⟨[(2, .ptr 0 0 3), (3, .ptr 1 0 3), (4, .ptr 2 0 3), (5, .int .i64 0), (6, .ptr 5 0 3), (7, .vr .i64 ra), (8, .vr .i64 rb), (9, .int .i64 r), (10, .sl 4 1 f w), (40, .sl 7 1 0 3), (41, .int .i64 jj), (42, .int .i64 rr), (47, .sl 4 1 fz wz), (48, .int .i64 wn), (49, .int .i64 0)], [(7, .ro (.cells [.sl 4 1 o0 w0, .sl 4 1 o1 w1, .sl 4 1 o2 w2])), (4, .fix (.ints .i64 L)), (5, .fix (.cells [.int .i64 n5, .int .i64 m5, .sl 4 1 0 k5])), (2, .fix (.cells [.int .i64 0, .int .i64 0, .nilsl])), (1, .fix (.cells [.int .i64 kb, .int .i64 m, .vi .i64 b])), (0, .fix (.cells [.int .i64 n, .int .i64 ka, .vi .i64 a]))], 8⟩ => some [(M.okCq n ka a kb m b ra rb r f w wn L, .exit 2, gC3 ra rb r f w jj rr fz wz wn wn o0 w0 o1 w1 o2 w2 (M.putR n a kb b r.toNat n.toNat L) n5 m5 k5 kb m b n ka a)]
  | lo, st => l_gC1 lo st
theorem h_gC2 : ∀ lo st alts ex st', l_gC2 lo st = some alts → pickL alts = some (ex, st') → LoopEq q3 30 2 lo st ex st' := by
  intro lo st alts ex st' h hp
  unfold l_gC2 at h
  split at h
  · simp only [Option.some.injEq] at h
    subst h
    rename_i ra rb r f w jj rr fz wz wn o0 w0 o1 w1 o2 w2 L n5 m5 k5 kb m b n ka a
    cases hk : M.okCq n ka a kb m b ra rb r f w wn L with
    | false => rw [hk] at hp; cases hp
    | true =>
      rw [hk] at hp
      cases hp
      obtain ⟨hM, r0, r1, rfl, rfl, rfl, rfl, rfl, hL⟩ := okCq_iff hk
      obtain ⟨⟨n1, n2, k1, k2, hla, hca⟩, ⟨j1, j2, m1, m2, hlb, hcb⟩, hkk2⟩ := okMul_iff hM
      obtain ⟨r, rfl⟩ := Int.eq_ofNat_of_zero_le r0
      rw [Int.toNat_natCast]
      refine loop_known (m := 0) (kp := keep 30 2) q3_ok noCall_ok ?_
      have main := loop_rule (lo := 0) (kp := keep 30 2) (b := execK q3 30 0 (ntAt q3.P 30) noCall 0 none (bodyAt q3.P 30 2)) (K := fun ex st => some (ex, st)) (fun i : Nat => gC3 (M.rowsL wn ka a) (M.rowsL kb m b) r (r * wn.toNat) wn.toNat jj rr fz wz wn i o0 w0 o1 w1 o2 w2 (M.putR wn a kb b r i L) n5 m5 k5 kb m b wn ka a) (fun i => i ≤ wn.toNat) (fun i => wn.toNat - i) (fun _ => (.exit 2, gC3 (M.rowsL wn ka a) (M.rowsL kb m b) r (r * wn.toNat) wn.toNat jj rr fz wz wn wn.toNat o0 w0 o1 w1 o2 w2 (M.putR wn a kb b r wn.toNat L) n5 m5 k5 kb m b wn ka a)) (fun i hi => ?_) 0 (Nat.zero_le _)
      · simp only [putR_zero] at main
        rw [show (wn.toNat : Int) = wn by omega] at main
        exact main
      by_cases hlt : i < wn.toNat
      · refine .inl ⟨i + 1, hlt, by omega, rfl, fun K' => ?_⟩
        have hir := in_row n1 hL r1 hlt
        rw [gC3_step, decide_eq_true (by omega : (i : Int) < wn), decide_eq_true (by omega : (0 : Int) ≤ r), decide_eq_true (by rw [rowsL_length]; omega : (r : Int) < (M.rowsL kb m b).length), Int.toNat_natCast, rowsL_getD r1, okCk_of hM r1 (by omega), decide_eq_true (by omega : (0 : Int) ≤ i), decide_eq_true (by omega : (i : Int) < (wn.toNat : Int)), Int.toNat_natCast, mulV_of hM r1 (by omega), Nat.mul_one, putR_next hir, w64_in (n := (i : Int) + 1) (by omega) (by omega)]
        rfl
      · have : i = wn.toNat := by omega
        subst this
        refine .inr ⟨⟨2, .inl rfl⟩, fun K' => ?_⟩
        rw [gC3_step, decide_eq_false (by omega : ¬ (wn.toNat : Int) < wn)]
        rfl
  · exact h_gC1 _ _ _ _ _ h hp
def l_gC3 : Nat → St → Option (List (Bool × Ex × St))
  | 0, ⟨[(2, .ptr 0 0 3), (3, .ptr 1 0 3), (4, .ptr 2 0 3), (5, .int .i64 0), (6, .ptr 5 0 3), (7, .vr .i64 ra), (8, .vr .i64 rb), (9, .int .i64 r), (10, .sl 4 1 f w), (40, .sl 7 1 0 4), (41, .int .i64 jj), (42, .int .i64 rr), (47, .sl 4 1 fz wz), (48, .int .i64 wn), (49, .int .i64 0)], [(7, .ro (.cells [.sl 4 1 o0 w0, .sl 4 1 o1 w1, .sl 4 1 o2 w2, .sl 4 1 o3 w3])), (4, .fix (.ints .i64 L)), (5, .fix (.cells [.int .i64 n5, .int .i64 m5, .sl 4 1 0 k5])), (2, .fix (.cells [.int .i64 0, .int .i64 0, .nilsl])), (1, .fix (.cells [.int .i64 kb, .int .i64 m, .vi .i64 b])), (0, .fix (.cells [.int .i64 n, .int .i64 ka, .vi .i64 a]))], 8⟩ => some [(M.okCq n ka a kb m b ra rb r f w wn L, .exit 2, gC4 ra rb r f w jj rr fz wz wn wn o0 w0 o1 w1 o2 w2 o3 w3 (M.putR n a kb b r.toNat n.toNat L) n5 m5 k5 kb m b n ka a)]
  | lo, st => l_gC2 lo st
theorem h_gC3 : ∀ lo st alts ex st', l_gC3 lo st = some alts → pickL alts = some (ex, st') → LoopEq q3 30 2 lo st ex st' := by
  intro lo st alts ex st' h hp
  unfold l_gC3 at h
  split at h
  · simp only [Option.some.injEq] at h
    subst h
    rename_i ra rb r f w jj rr fz wz wn o0 w0 o1 w1 o2 w2 o3 w3 L n5 m5 k5 kb m b n ka a
    cases hk : M.okCq n ka a kb m b ra rb r f w wn L with
    | false => rw [hk] at hp; cases hp
    | true =>
      rw [hk] at hp
      cases hp
      obtain ⟨hM, r0, r1, rfl, rfl, rfl, rfl, rfl, hL⟩ := okCq_iff hk
      obtain ⟨⟨n1, n2, k1, k2, hla, hca⟩, ⟨j1, j2, m1, m2, hlb, hcb⟩, hkk2⟩ := okMul_iff hM
      obtain ⟨r, rfl⟩ := Int.eq_ofNat_of_zero_le r0
      rw [Int.toNat_natCast]
      refine loop_known (m := 0) (kp := keep 30 2) q3_ok noCall_ok ?_
      have main := loop_rule (lo := 0) (kp := keep 30 2) (b := execK q3 30 0 (ntAt q3.P 30) noCall 0 none (bodyAt q3.P 30 2)) (K := fun ex st => some (ex, st)) (fun i : Nat => gC4 (M.rowsL wn ka a) (M.rowsL kb m b) r (r * wn.toNat) wn.toNat jj rr fz wz wn i o0 w0 o1 w1 o2 w2 o3 w3 (M.putR wn a kb b r i L) n5 m5 k5 kb m b wn ka a) (fun i => i ≤ wn.toNat) (fun i => wn.toNat - i) (fun _ => (.exit 2, gC4 (M.rowsL wn ka a) (M.rowsL kb m b) r (r * wn.toNat) wn.toNat jj rr fz wz wn wn.toNat o0 w0 o1 w1 o2 w2 o3 w3 (M.putR wn a kb b r wn.toNat L) n5 m5 k5 kb m b wn ka a)) (fun i hi => ?_) 0 (Nat.zero_le _)
      · simp only [putR_zero] at main
        rw [show (wn.toNat : Int) = wn by omega] at main
        exact main
      by_cases hlt : i < wn.toNat
      · refine .inl ⟨i + 1, hlt, by omega, rfl, fun K' => ?_⟩
        have hir := in_row n1 hL r1 hlt
        rw [gC4_step, decide_eq_true (by omega : (i : Int) < wn), decide_eq_true (by omega : (0 : Int) ≤ r), decide_eq_true (by rw [rowsL_length]; omega : (r : Int) < (M.rowsL kb m b).length), Int.toNat_natCast, rowsL_getD r1, okCk_of hM r1 (by omega), decide_eq_true (by omega : (0 : Int) ≤ i), decide_eq_true (by omega : (i : Int) < (wn.toNat : Int)), Int.toNat_natCast, mulV_of hM r1 (by omega), Nat.mul_one, putR_next hir, w64_in (n := (i : Int) + 1) (by omega) (by omega)]
        rfl
      · have : i = wn.toNat := by omega
        subst this
        refine .inr ⟨⟨2, .inl rfl⟩, fun K' => ?_⟩
        rw [gC4_step, decide_eq_false (by omega : ¬ (wn.toNat : Int) < wn)]
        rfl
  · exact h_gC2 _ _ _ _ _ h hp
def l_gC4 : Nat → St → Option (List (Bool × Ex × St))
  | 0, ⟨[(2, .ptr 0 0 3), (3, .ptr 1 0 3), (4, .ptr 2 0 3), (5, .int .i64 0), (6, .ptr 5 0 3), (7, .vr .i64 ra), (8, .vr .i64 rb), (9, .int .i64 r), (10, .sl 4 1 f w), (40, .sl 7 1 0 5), (41, .int .i64 jj), (42, .int .i64 rr), (47, .sl 4 1 fz wz), (48, .int .i64 wn), (49, .int .i64 0)], [(7, .ro (.cells [.sl 4 1 o0 w0, .sl 4 1 o1 w1, .sl 4 1 o2 w2, .sl 4 1 o3 w3, .sl 4 1 o4 w4])), (4, .fix (.ints .i64 L)), (5, .fix (.cells [.int .i64 n5, .int .i64 m5, .sl 4 1 0 k5])), (2, .fix (.cells [.int .i64 0, .int .i64 0, .nilsl])), (1, .fix (.cells [.int .i64 kb, .int .i64 m, .vi .i64 b])), (0, .fix (.cells [.int .i64 n, .int .i64 ka, .vi .i64 a]))], 8⟩ => some [(M.okCq n ka a kb m b ra rb r f w wn L, .exit 2, gC5 ra rb r f w jj rr fz wz wn wn o0 w0 o1 w1 o2 w2 o3 w3 o4 w4 (M.putR n a kb b r.toNat n.toNat L) n5 m5 k5 kb m b n ka a)]
  | lo, st => l_gC3 lo st
theorem h_gC4 : ∀ lo st alts ex st', l_gC4 lo st = some alts → pickL alts = some (ex, st') → LoopEq q3 30 2 lo st ex st' := by
  intro lo st alts ex st' h hp
  unfold l_gC4 at h
  split at h
  · simp only [Option.some.injEq] at h
    subst h
    rename_i ra rb r f w jj rr fz wz wn o0 w0 o1 w1 o2 w2 o3 w3 o4 w4 L n5 m5 k5 kb m b n ka a
    cases hk : M.okCq n ka a kb m b ra rb r f w wn L with
    | false => rw [hk] at hp; cases hp
    | true =>
      rw [hk] at hp
      cases hp
      obtain ⟨hM, r0, r1, rfl, rfl, rfl, rfl, rfl, hL⟩ := okCq_iff hk
      obtain ⟨⟨n1, n2, k1, k2, hla, hca⟩, ⟨j1, j2, m1, m2, hlb, hcb⟩, hkk2⟩ := okMul_iff hM
      obtain ⟨r, rfl⟩ := Int.eq_ofNat_of_zero_le r0
      rw [Int.toNat_natCast]
      refine loop_known (m := 0) (kp := keep 30 2) q3_ok noCall_ok ?_
      have main := loop_rule (lo := 0) (kp := keep 30 2) (b := execK q3 30 0 (ntAt q3.P 30) noCall 0 none (bodyAt q3.P 30 2)) (K := fun ex st => some (ex, st)) (fun i : Nat => gC5 (M.rowsL wn ka a) (M.rowsL kb m b) r (r * wn.toNat) wn.toNat jj rr fz wz wn i o0 w0 o1 w1 o2 w2 o3 w3 o4 w4 (M.putR wn a kb b r i L) n5 m5 k5 kb m b wn ka a) (fun i => i ≤ wn.toNat) (fun i => wn.toNat - i) (fun _ => (.exit 2, gC5 (M.rowsL wn ka a) (M.rowsL kb m b) r (r * wn.toNat) wn.toNat jj rr fz wz wn wn.toNat o0 w0 o1 w1 o2 w2 o3 w3 o4 w4 (M.putR wn a kb b r wn.toNat L) n5 m5 k5 kb m b wn ka a)) (fun i hi => ?_) 0 (Nat.zero_le _)
      · simp only [putR_zero] at main
        rw [show (wn.toNat : Int) = wn by omega] at main
        exact main
      by_cases hlt : i < wn.toNat
      · refine .inl ⟨i + 1, hlt, by omega, rfl, fun K' => ?_⟩
        have hir := in_row n1 hL r1 hlt
        rw [gC5_step, decide_eq_true (by omega : (i : Int) < wn), decide_eq_true (by omega : (0 : Int) ≤ r), decide_eq_true (by rw [rowsL_length]; omega : (r : Int) < (M.rowsL kb m b).length), Int.toNat_natCast, rowsL_getD r1, okCk_of hM r1 (by omega), decide_eq_true (by omega : (0 : Int) ≤ i), decide_eq_true (by omega : (i : Int) < (wn.toNat : Int)), Int.toNat_natCast, mulV_of hM r1 (by omega), Nat.mul_one, putR_next hir, w64_in (n := (i : Int) + 1) (by omega) (by omega)]
        rfl
      · have : i = wn.toNat := by omega
        subst this
        refine .inr ⟨⟨2, .inl rfl⟩, fun K' => ?_⟩
        rw [gC5_step, decide_eq_false (by omega : ¬ (wn.toNat : Int) < wn)]
        rfl
  · exact h_gC3 _ _ _ _ _ h hp
def l_gC5 : Nat → St → Option (List (Bool × Ex × St))
  | 0, ⟨[(2, .ptr 0 0 3), (3, .ptr 1 0 3), (4, .ptr 2 0 3), (5, .int .i64 0), (6, .ptr 5 0 3), (7, .vr .i64 ra), (8, .vr .i64 rb), (9, .int .i64 r), (10, .sl 4 1 f w), (40, .sl 7 1 0 6), (41, .int .i64 jj), (42, .int .i64 rr), (47, .sl 4 1 fz wz), (48, .int .i64 wn), (49, .int .i64 0)], [(7, .ro (.cells [.sl 4 1 o0 w0, .sl 4 1 o1 w1, .sl 4 1 o2 w2, .sl 4 1 o3 w3, .sl 4 1 o4 w4, .sl 4 1 o5 w5])), (4, .fix (.ints .i64 L)), (5, .fix (.cells [.int .i64 n5, .int .i64 m5, .sl 4 1 0 k5])), (2, .fix (.cells [.int .i64 0, .int .i64 0, .nilsl])), (1, .fix (.cells [.int .i64 kb, .int .i64 m, .vi .i64 b])), (0, .fix (.cells [.int .i64 n, .int .i64 ka, .vi .i64 a]))], 8⟩ => some [(M.okCq n ka a kb m b ra rb r f w wn L, .exit 2, gC6 ra rb r f w jj rr fz wz wn wn o0 w0 o1 w1 o2 w2 o3 w3 o4 w4 o5 w5 (M.putR n a kb b r.toNat n.toNat L) n5 m5 k5 kb m b n ka a)]
  | lo, st => l_gC4 lo st
theorem h_gC5 : ∀ lo st alts ex st', l_gC5 lo st = some alts → pickL alts = some (ex, st') → LoopEq q3 30 2 lo st ex st' := by
  intro lo st alts ex st' h hp
  unfold l_gC5 at h
  split at h
  · simp only [Option.some.injEq] at h
    subst h
    rename_i ra rb r f w jj rr fz wz wn o0 w0 o1 w1 o2 w2 o3 w3 o4 w4 o5 w5 L n5 m5 k5 kb m b n ka a
    cases hk : M.okCq n ka a kb m b ra rb r f w wn L with
    | false => rw [hk] at hp; cases hp
    | true =>
      rw [hk] at hp
      cases hp
      obtain ⟨hM, r0, r1, rfl, rfl, rfl, rfl, rfl, hL⟩ := okCq_iff hk
      obtain ⟨⟨n1, n2, k1, k2, hla, hca⟩, ⟨j1, j2, m1, m2, hlb, hcb⟩, hkk2⟩ := okMul_iff hM
      obtain ⟨r, rfl⟩ := Int.eq_ofNat_of_zero_le r0
      rw [Int.toNat_natCast]
      refine loop_known (m := 0) (kp := keep 30 2) q3_ok noCall_ok ?_
      have main := loop_rule (lo := 0) (kp := keep 30 2) (b := execK q3 30 0 (ntAt q3.P 30) noCall 0 none (bodyAt q3.P 30 2)) (K := fun ex st => some (ex, st)) (fun i : Nat => gC6 (M.rowsL wn ka a) (M.rowsL kb m b) r (r * wn.toNat) wn.toNat jj rr fz wz wn i o0 w0 o1 w1 o2 w2 o3 w3 o4 w4 o5 w5 (M.putR wn a kb b r i L) n5 m5 k5 kb m b wn ka a) (fun i => i ≤ wn.toNat) (fun i => wn.toNat - i) (fun _ => (.exit 2, gC6 (M.rowsL wn ka a) (M.rowsL kb m b) r (r * wn.toNat) wn.toNat jj rr fz wz wn wn.toNat o0 w0 o1 w1 o2 w2 o3 w3 o4 w4 o5 w5 (M.putR wn a kb b r wn.toNat L) n5 m5 k5 kb m b wn ka a)) (fun i hi => ?_) 0 (Nat.zero_le _)
      · simp only [putR_zero] at main
        rw [show (wn.toNat : Int) = wn by omega] at main
        exact main
      by_cases hlt : i < wn.toNat
      · refine .inl ⟨i + 1, hlt, by omega, rfl, fun K' => ?_⟩
        have hir := in_row n1 hL r1 hlt
        rw [gC6_step, decide_eq_true (by omega : (i : Int) < wn), decide_eq_true (by omega : (0 : Int) ≤ r), decide_eq_true (by rw [rowsL_length]; omega : (r : Int) < (M.rowsL kb m b).length), Int.toNat_natCast, rowsL_getD r1, okCk_of hM r1 (by omega), decide_eq_true (by omega : (0 : Int) ≤ i), decide_eq_true (by omega : (i : Int) < (wn.toNat : Int)), Int.toNat_natCast, mulV_of hM r1 (by omega), Nat.mul_one, putR_next hir, w64_in (n := (i : Int) + 1) (by omega) (by omega)]
        rfl
      · have : i = wn.toNat := by omega
        subst this
        refine .inr ⟨⟨2, .inl rfl⟩, fun K' => ?_⟩
        rw [gC6_step, decide_eq_false (by omega : ¬ (wn.toNat : Int) < wn)]
        rfl
  · exact h_gC4 _ _ _ _ _ h hp
def l_gC6 : Nat → St → Option (List (Bool × Ex × St))
  | 0, ⟨[(2, .ptr 0 0 3), (3, .ptr 1 0 3), (4, .ptr 2 0 3), (5, .int .i64 0), (6, .ptr 5 0 3), (7, .vr .i64 ra), (8, .vr .i64 rb), (9, .int .i64 r), (10, .sl 4 1 f w), (40, .sl 7 1 0 7), (41, .int .i64 jj), (42, .int .i64 rr), (47, .sl 4 1 fz wz), (48, .int .i64 wn), (49, .int .i64 0)], [(7, .ro (.cells [.sl 4 1 o0 w0, .sl 4 1 o1 w1, .sl 4 1 o2 w2, .sl 4 1 o3 w3, .sl 4 1 o4 w4, .sl 4 1 o5 w5, .sl 4 1 o6 w6])), (4, .fix (.ints .i64 L)), (5, .fix (.cells [.int .i64 n5, .int .i64 m5, .sl 4 1 0 k5])), (2, .fix (.cells [.int .i64 0, .int .i64 0, .nilsl])), (1, .fix (.cells [.int .i64 kb, .int .i64 m, .vi .i64 b])), (0, .fix (.cells [.int .i64 n, .int .i64 ka, .vi .i64 a]))], 8⟩ => some [(M.okCq n ka a kb m b ra rb r f w wn L, .exit 2, gC7 ra rb r f w jj rr fz wz wn wn o0 w0 o1 w1 o2 w2 o3 w3 o4 w4 o5 w5 o6 w6 (M.putR n a kb b r.toNat n.toNat L) n5 m5 k5 kb m b n ka a)]
  | lo, st => l_gC5 lo st
theorem h_gC6 : ∀ lo st alts ex st', l_gC6 lo st = some alts → pickL alts = some (ex, st') → LoopEq q3 30 2 lo st ex st' := by
  intro lo st alts ex st' h hp
  unfold l_gC6 at h
  split at h
  · simp only [Option.some.injEq] at h
    subst h
    rename_i ra rb r f w jj rr fz wz wn o0 w0 o1 w1 o2 w2 o3 w3 o4 w4 o5 w5 o6 w6 L n5 m5 k5 kb m b n ka a
    cases hk : M.okCq n ka a kb m b ra rb r f w wn L with
    | false => rw [hk] at hp; cases hp
    | true =>
      rw [hk] at hp
      cases hp
      obtain ⟨hM, r0, r1, rfl, rfl, rfl, rfl, rfl, hL⟩ := okCq_iff hk
      obtain ⟨⟨n1, n2, k1, k2, hla, hca⟩, ⟨j1, j2, m1, m2, hlb, hcb⟩, hkk2⟩ := okMul_iff hM
      obtain ⟨r, rfl⟩ := Int.eq_ofNat_of_zero_le r0
      rw [Int.toNat_natCast]
      refine loop_known (m := 0) (kp := keep 30 2) q3_ok noCall_ok ?_
      have main := loop_rule (lo := 0) (kp := keep 30 2) (b := execK q3 30 0 (ntAt q3.P 30) noCall 0 none (bodyAt q3.P 30 2)) (K := fun ex st => some (ex, st)) (fun i : Nat => gC7 (M.rowsL wn ka a) (M.rowsL kb m b) r (r * wn.toNat) wn.toNat jj rr fz wz wn i o0 w0 o1 w1 o2 w2 o3 w3 o4 w4 o5 w5 o6 w6 (M.putR wn a kb b r i L) n5 m5 k5 kb m b wn ka a) (fun i => i ≤ wn.toNat) (fun i => wn.toNat - i) (fun _ => (.exit 2, gC7 (M.rowsL wn ka a) (M.rowsL kb m b) r (r * wn.toNat) wn.toNat jj rr fz wz wn wn.toNat o0 w0 o1 w1 o2 w2 o3 w3 o4 w4 o5 w5 o6 w6 (M.putR wn a kb b r wn.toNat L) n5 m5 k5 kb m b wn ka a)) (fun i hi => ?_) 0 (Nat.zero_le _)
      · simp only [putR_zero] at main
        rw [show (wn.toNat : Int) = wn by omega] at main
        exact main
      by_cases hlt : i < wn.toNat
      · refine .inl ⟨i + 1, hlt, by omega, rfl, fun K' => ?_⟩
        have hir := in_row n1 hL r1 hlt
        rw [gC7_step, decide_eq_true (by omega : (i : Int) < wn), decide_eq_true (by omega : (0 : Int) ≤ r), decide_eq_true (by rw [rowsL_length]; omega : (r : Int) < (M.rowsL kb m b).length), Int.toNat_natCast, rowsL_getD r1, okCk_of hM r1 (by omega), decide_eq_true (by omega : (0 : Int) ≤ i), decide_eq_true (by omega : (i : Int) < (wn.toNat : Int)), Int.toNat_natCast, mulV_of hM r1 (by omega), Nat.mul_one, putR_next hir, w64_in (n := (i : Int) + 1) (by omega) (by omega)]
        rfl
      · have : i = wn.toNat := by omega
        subst this
        refine .inr ⟨⟨2, .inl rfl⟩, fun K' => ?_⟩
        rw [gC7_step, decide_eq_false (by omega : ¬ (wn.toNat : Int) < wn)]
        rfl
  · exact h_gC5 _ _ _ _ _ h hp
def l_gC7 : Nat → St → Option (List (Bool × Ex × St))
  | 0, ⟨[(2, .ptr 0 0 3), (3, .ptr 1 0 3), (4, .ptr 2 0 3), (5, .int .i64 0), (6, .ptr 5 0 3), (7, .vr .i64 ra), (8, .vr .i64 rb), (9, .int .i64 r), (10, .sl 4 1 f w), (40, .sl 7 1 0 8), (41, .int .i64 jj), (42, .int .i64 rr), (47, .sl 4 1 fz wz), (48, .int .i64 wn), (49, .int .i64 0)], [(7, .ro (.cells [.sl 4 1 o0 w0, .sl 4 1 o1 w1, .sl 4 1 o2 w2, .sl 4 1 o3 w3, .sl 4 1 o4 w4, .sl 4 1 o5 w5, .sl 4 1 o6 w6, .sl 4 1 o7 w7])), (4, .fix (.ints .i64 L)), (5, .fix (.cells [.int .i64 n5, .int .i64 m5, .sl 4 1 0 k5])), (2, .fix (.cells [.int .i64 0, .int .i64 0, .nilsl])), (1, .fix (.cells [.int .i64 kb, .int .i64 m, .vi .i64 b])), (0, .fix (.cells [.int .i64 n, .int .i64 ka, .vi .i64 a]))], 8⟩ => some [(M.okCq n ka a kb m b ra rb r f w wn L, .exit 2, gC8 ra rb r f w jj rr fz wz wn wn o0 w0 o1 w1 o2 w2 o3 w3 o4 w4 o5 w5 o6 w6 o7 w7 (M.putR n a kb b r.toNat n.toNat L) n5 m5 k5 kb m b n ka a)]
  | lo, st => l_gC6 lo st
theorem h_gC7 : ∀ lo st alts ex st', l_gC7 lo st = some alts → pickL alts = some (ex, st') → LoopEq q3 30 2 lo st ex st' := by
  intro lo st alts ex st' h hp
  unfold l_gC7 at h
  split at h
  · simp only [Option.some.injEq] at h
    subst h
    rename_i ra rb r f w jj rr fz wz wn o0 w0 o1 w1 o2 w2 o3 w3 o4 w4 o5 w5 o6 w6 o7 w7 L n5 m5 k5 kb m b n ka a
    cases hk : M.okCq n ka a kb m b ra rb r f w wn L with
    | false => rw [hk] at hp; cases hp
    | true =>
      rw [hk] at hp
      cases hp
      obtain ⟨hM, r0, r1, rfl, rfl, rfl, rfl, rfl, hL⟩ := okCq_iff hk
      obtain ⟨⟨n1, n2, k1, k2, hla, hca⟩, ⟨j1, j2, m1, m2, hlb, hcb⟩, hkk2⟩ := okMul_iff hM
      obtain ⟨r, rfl⟩ := Int.eq_ofNat_of_zero_le r0
      rw [Int.toNat_natCast]
      refine loop_known (m := 0) (kp := keep 30 2) q3_ok noCall_ok ?_
      have main := loop_rule (lo := 0) (kp := keep 30 2) (b := execK q3 30 0 (ntAt q3.P 30) noCall 0 none (bodyAt q3.P 30 2)) (K := fun ex st => some (ex, st)) (fun i : Nat => gC8 (M.rowsL wn ka a) (M.rowsL kb m b) r (r * wn.toNat) wn.toNat jj rr fz wz wn i o0 w0 o1 w1 o2 w2 o3 w3 o4 w4 o5 w5 o6 w6 o7 w7 (M.putR wn a kb b r i L) n5 m5 k5 kb m b wn ka a) (fun i => i ≤ wn.toNat) (fun i => wn.toNat - i) (fun _ => (.exit 2, gC8 (M.rowsL wn ka a) (M.rowsL kb m b) r (r * wn.toNat) wn.toNat jj rr fz wz wn wn.toNat o0 w0 o1 w1 o2 w2 o3 w3 o4 w4 o5 w5 o6 w6 o7 w7 (M.putR wn a kb b r wn.toNat L) n5 m5 k5 kb m b wn ka a)) (fun i hi => ?_) 0 (Nat.zero_le _)
      · simp only [putR_zero] at main
        rw [show (wn.toNat : Int) = wn by omega] at main
        exact main
      by_cases hlt : i < wn.toNat
      · refine .inl ⟨i + 1, hlt, by omega, rfl, fun K' => ?_⟩
        have hir := in_row n1 hL r1 hlt
        rw [gC8_step, decide_eq_true (by omega : (i : Int) < wn), decide_eq_true (by omega : (0 : Int) ≤ r), decide_eq_true (by rw [rowsL_length]; omega : (r : Int) < (M.rowsL kb m b).length), Int.toNat_natCast, rowsL_getD r1, okCk_of hM r1 (by omega), decide_eq_true (by omega : (0 : Int) ≤ i), decide_eq_true (by omega : (i : Int) < (wn.toNat : Int)), Int.toNat_natCast, mulV_of hM r1 (by omega), Nat.mul_one, putR_next hir, w64_in (n := (i : Int) + 1) (by omega) (by omega)]
        rfl
      · have : i = wn.toNat := by omega
        subst this
        refine .inr ⟨⟨2, .inl rfl⟩, fun K' => ?_⟩
        rw [gC8_step, decide_eq_false (by omega : ¬ (wn.toNat : Int) < wn)]
        rfl
  · exact h_gC6 _ _ _ _ _ h hp
noncomputable def q4 : Cfg := q3.addLL 30 2 l_gC7
theorem q4_ok : CfgOK q4 := addLL_ok q3_ok (by kernel_rfl) h_gC7
end Go.Proofs.Ytplcpdjabjjfiaa
