/- Matrices: the loop over the parts of a block. -/
import Derived.Test.YtplcpdjabjjfiaaMaW
namespace Go.Proofs.Ytplcpdjabjjfiaa
open Am
set_option maxRecDepth 100000
set_option linter.unusedVariables false
set_option linter.unusedSimpArgs false
set_option maxHeartbeats 4000000

def pSt0 (p : List (Int × List Int)) (k mo m3 c2 n m : Int) (w x co : List Int) (i : Int) : St := ⟨[(8, .bool false), (9, .ptr 0 0 3), (17, .ptr 2 0 2), (18, .ptr 3 0 2), (19, .int .i64 0), (20, .ptr 4 0 2), (162, .vb .i32 p), (163, .int .i64 k), (164, .int .i64 i)], [(4, .fix (.cells [.int .i64 mo, .nilsl])), (3, .fix (.cells [.int .i64 m3, .vi .i32 w])), (2, .fix (.cells [.int .i64 c2, .vi .i32 x])), (0, .fix (.cells [.int .i64 n, .int .i64 m, .vi .i64 co]))], 5⟩
def pSt1 (p : List (Int × List Int)) (k mo m3 c2 n m : Int) (w x co : List Int) (acc : List Int) (i : Int) : St := ⟨[(8, .bool false), (9, .ptr 0 0 3), (17, .ptr 2 0 2), (18, .ptr 3 0 2), (19, .int .i64 0), (20, .ptr 4 0 2), (162, .vb .i32 p), (163, .int .i64 k), (164, .int .i64 i)], [(4, .fix (.cells [.int .i64 mo, .vi .i32 acc])), (3, .fix (.cells [.int .i64 m3, .vi .i32 w])), (2, .fix (.cells [.int .i64 c2, .vi .i32 x])), (0, .fix (.cells [.int .i64 n, .int .i64 m, .vi .i64 co]))], 5⟩
theorem p0_step {R : Type} (p : List (Int × List Int)) (k mo m3 c2 n m : Int) (w x co : List Int) (i : Int) (K : Kont R) : execK u6 6 0 (ntAt u6.P 6) noCall 0 none (bodyAt u6.P 6 5) (pSt0 p k mo m3 c2 n m w x co i) (kRes 0 (keep 6 5) K) =
    (bif decide (i < k) then (bif decide (0 ≤ i) && decide (i < p.length) && true then (bif M.okA2 n m co (p.getD i.toNat (0, [])).1 (p.getD i.toNat (0, [])).2 && true then (bif M.okJ [] (M.apP n m co (p.getD i.toNat (0, [])).2) && true then K .normal (pSt1 p k mo m3 c2 n m w x co ([] ++ M.apP n m co (p.getD i.toNat (0, [])).2) (M.w64 (i + 1))) else none) else none) else none) else K (.exit 5) (pSt0 p k mo m3 c2 n m w x co i)) := by kernel_rfl
theorem p1_step {R : Type} (p : List (Int × List Int)) (k mo m3 c2 n m : Int) (w x co : List Int) (acc : List Int) (i : Int) (K : Kont R) : execK u6 6 0 (ntAt u6.P 6) noCall 0 none (bodyAt u6.P 6 5) (pSt1 p k mo m3 c2 n m w x co acc i) (kRes 0 (keep 6 5) K) =
    (bif decide (i < k) then (bif decide (0 ≤ i) && decide (i < p.length) && true then (bif M.okA2 n m co (p.getD i.toNat (0, [])).1 (p.getD i.toNat (0, [])).2 && true then (bif M.okJ acc (M.apP n m co (p.getD i.toNat (0, [])).2) && true then K .normal (pSt1 p k mo m3 c2 n m w x co (acc ++ M.apP n m co (p.getD i.toNat (0, [])).2) (M.w64 (i + 1))) else none) else none) else none) else K (.exit 5) (pSt1 p k mo m3 c2 n m w x co acc i)) := by kernel_rfl
namespace M
def okPc (n m : Int) (co : List Int) (p : List (Int × List Int)) (k : Int) : Bool := decide (k = p.length) && decide (1 ≤ p.length) && decide (p.length ≤ 4096) && allN p.length fun i => okA2 n m co (p.getD i (0, [])).1 (p.getD i (0, [])).2 && okJ (accP n m co p i) (apP n m co (p.getD i (0, [])).2)
end M
theorem okPc_iff {n m : Int} {co : List Int} {p : List (Int × List Int)} {k : Int} (h : M.okPc n m co p k = true) : k = p.length ∧ 1 ≤ p.length ∧ p.length ≤ 4096 ∧ ∀ i, i < p.length → M.okA2 n m co (p.getD i (0, [])).1 (p.getD i (0, [])).2 = true ∧ M.okJ (M.accP n m co p i) (M.apP n m co (p.getD i (0, [])).2) = true := by
  unfold M.okPc at h; simp only [Bool.and_eq_true, decide_eq_true_eq, allN_iff] at h
  obtain ⟨⟨⟨h1, h2⟩, h3⟩, h4⟩ := h
  exact ⟨h1, h2, h3, h4⟩
def pHd (p : List (Int × List Int)) (k mo m3 c2 n m : Int) (w x co : List Int) : Nat → St
  | 0 => pSt0 p k mo m3 c2 n m w x co 0
  | i + 1 => pSt1 p k mo m3 c2 n m w x co (M.accP n m co p (i + 1)) (i + 1 : Nat)
theorem p_next {R : Type} (p : List (Int × List Int)) (k mo m3 c2 n m : Int) (w x co : List Int) (h : M.okPc n m co p k = true) (i : Nat) (hi : i < p.length) (K' : Kont R) : execK u6 6 0 (ntAt u6.P 6) noCall 0 none (bodyAt u6.P 6 5) (pHd p k mo m3 c2 n m w x co i) (kRes 0 (keep 6 5) K') = K' .normal (pHd p k mo m3 c2 n m w x co (i + 1)) := by
  obtain ⟨rfl, h2, h3, h4⟩ := okPc_iff h
  obtain ⟨a1, a2⟩ := h4 i hi
  have hw : M.w64 ((i : Int) + 1) = ((i + 1 : Nat) : Int) := w64_in (by omega) (by omega)
  have e1 : decide ((i : Int) < (p.length : Int)) = true := decide_eq_true (by omega)
  have e2 : decide ((0 : Int) ≤ i) = true := decide_eq_true (by omega)
  cases i with
  | zero =>
    show execK u6 6 0 (ntAt u6.P 6) noCall 0 none (bodyAt u6.P 6 5) (pSt0 p p.length mo m3 c2 n m w x co ((0 : Nat) : Int)) _ = _
    rw [p0_step, e1, e2, Int.toNat_natCast, a1, show M.okJ [] (M.apP n m co (p.getD 0 (0, [])).2) = true from a2, hw]
    rfl
  | succ i =>
    show execK u6 6 0 (ntAt u6.P 6) noCall 0 none (bodyAt u6.P 6 5) (pSt1 p p.length mo m3 c2 n m w x co (M.accP n m co p (i + 1)) (i + 1 : Nat)) _ = _
    rw [p1_step, e1, e2, Int.toNat_natCast, a1, a2, hw]
    rfl

def l_Pc : Nat → St → Option (Bool × Ex × St)
  | 0, ⟨[(8, .bool false), (9, .ptr 0 0 3), (17, .ptr 2 0 2), (18, .ptr 3 0 2), (19, .int .i64 0), (20, .ptr 4 0 2), (162, .vb .i32 p), (163, .int .i64 k), (164, .int .i64 0)], [(4, .fix (.cells [.int .i64 mo, .nilsl])), (3, .fix (.cells [.int .i64 m3, .vi .i32 w])), (2, .fix (.cells [.int .i64 c2, .vi .i32 x])), (0, .fix (.cells [.int .i64 n, .int .i64 m, .vi .i64 co]))], 5⟩ => some (M.okPc n m co p k, .exit 5, pSt1 p k mo m3 c2 n m w x co (M.accP n m co p p.length) k)
  | _, _ => none
noncomputable def u7 : Cfg := u6.addL 6 5 l_Pc
theorem u7_ok : CfgOK u7 := addL_ok u6_ok (by kernel_rfl) fun lo st ex st' h => by
  unfold l_Pc at h
  split at h
  · simp only [Option.some.injEq, Prod.mk.injEq] at h
    obtain ⟨hc, rfl, rfl⟩ := h
    rename_i p k mo m3 w c2 x n m co
    obtain ⟨rfl, h2, h3, h4⟩ := okPc_iff hc
    refine loop_known (m := 0) (kp := keep 6 5) u6_ok noCall_ok ?_
    have he : (pHd p p.length mo m3 c2 n m w x co) p.length = pSt1 p p.length mo m3 c2 n m w x co (M.accP n m co p p.length) p.length := by
      obtain ⟨q, hq⟩ : ∃ q, p.length = q + 1 := ⟨p.length - 1, by omega⟩
      have : ∀ z, z = q + 1 → (pHd p p.length mo m3 c2 n m w x co) z = pSt1 p p.length mo m3 c2 n m w x co (M.accP n m co p z) z := fun z hz => by subst hz; rfl
      exact this _ hq
    rw [← he]
    refine loop_rule (pHd p p.length mo m3 c2 n m w x co) (fun i => i ≤ p.length) (fun i => p.length - i) (fun _ => (.exit 5, (pHd p p.length mo m3 c2 n m w x co) p.length)) (fun i hi => ?_) 0 (Nat.zero_le _)
    by_cases hlt : i < p.length
    · exact .inl ⟨i + 1, hlt, by omega, rfl, fun K' => p_next _ _ _ _ _ _ _ _ _ _ hc i hlt K'⟩
    · have : i = p.length := by omega
      subst this
      refine .inr ⟨⟨5, .inl rfl⟩, fun K' => ?_⟩
      rw [he, p1_step, decide_eq_false (by omega)]
      rfl
  · cases h

end Go.Proofs.Ytplcpdjabjjfiaa
