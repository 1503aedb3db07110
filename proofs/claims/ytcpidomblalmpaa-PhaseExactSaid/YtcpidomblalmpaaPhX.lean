/- The law of exactness: its loop and its value. -/
import Derived.Test.YtcpidomblalmpaaPhE
namespace Go.Proofs.Ytcpidomblalmpaa
open Am
set_option maxRecDepth 100000
set_option linter.unusedVariables false
def cl (p : M.Ph) : List AV := [.int .i64 p.num, .int .i64 p.den, .int .i64 p.adj, .int .i64 p.pos, .int .i64 p.frac]
def xSt (r : Bool) (k den i : Int) (p q : M.Ph) : St := ⟨[(1, .int .u8 k), (4, .bool r), (5, .ptr 0 0 5), (6, .int .i64 den), (7, .ptr 1 0 5), (8, .int .i64 i)], [(1, .fix (.cells (cl q))), (0, .fix (.cells (cl p)))], 2⟩
theorem x_step {R : Type} (r : Bool) (k den i : Int) (p q : M.Ph) (K : Kont R) : execK c27 3 0 (ntAt Try.prog 3) noCall 0 none (bodyAt Try.prog 3 0) (xSt r k den i p q) (kRes 0 (keep 3 0) K) =
    (bif decide (i < M.w64 (k.tmod 5)) then (bif M.aE q den != 0 then K .ret (xSt false k den i p q) else K .normal (xSt r k den (M.w64 (i + 1)) p (M.aP q den))) else K (.exit 0) (xSt r k den i p q)) := by kernel_rfl
namespace M
def runOK (den : Int) : Nat → Ph → Bool
  | 0, _ => true
  | n + 1, q => (aE q den == 0) && runOK den n (aP q den)
def run (den : Int) : Nat → Ph → Ph
  | 0, q => q
  | n + 1, q => run den n (aP q den)
end M
theorem x_loop {R : Type} (K : Kont R) (r : Bool) (k den : Int) (p : M.Ph) (hk : 0 ≤ k) : ∀ (n : Nat) (q : M.Ph) (i : Int), 0 ≤ i → i + n = k.tmod 5 → M.runOK den n q = true →
    ∃ m, loopK 0 (keep 3 0) (execK c27 3 0 (ntAt Try.prog 3) noCall 0 none (bodyAt Try.prog 3 0)) m (xSt r k den i p q) K = K (.exit 0) (xSt r k den (k.tmod 5) p (M.run den n q)) := by
  have h5 : k.tmod 5 < 5 := Int.tmod_lt_of_pos _ (by omega)
  have h0 : 0 ≤ k.tmod 5 := Int.tmod_nonneg _ hk
  have hw : M.w64 (k.tmod 5) = k.tmod 5 := w64_in (by omega) (by omega)
  intro n
  induction n with
  | zero =>
    intro q i hi hn _
    refine ⟨1, ?_⟩
    have e : i = k.tmod 5 := by omega
    subst e
    rw [loopK_step, x_step, hw, decide_eq_false (by omega)]
    rfl
  | succ n ih =>
    intro q i hi hn hr
    simp only [M.runOK, Bool.and_eq_true] at hr
    have hi1 : M.w64 (i + 1) = i + 1 := w64_in (by omega) (by omega)
    obtain ⟨m, hm⟩ := ih (M.aP q den) (i + 1) (by omega) (by omega) hr.2
    refine ⟨m + 1, ?_⟩
    have he : (M.aE q den != 0) = false := by
      have := hr.1
      simp at this ⊢; exact this
    rw [loopK_step, x_step, hw, decide_eq_true (by omega), he, hi1]
    exact hm
def xL : Nat → St → Option (Bool × Ex × St)
  | 0, ⟨[(1, .int .u8 k), (4, .bool r), (5, .ptr 0 0 5), (6, .int .i64 den), (7, .ptr 1 0 5), (8, .int .i64 0)], [(1, .fix (.cells [.int .i64 q1, .int .i64 q2, .int .i64 q3, .int .i64 q4, .int .i64 q5])), (0, .fix (.cells [.int .i64 p1, .int .i64 p2, .int .i64 p3, .int .i64 p4, .int .i64 p5]))], 2⟩ =>
    some (decide (0 ≤ k) && M.runOK den (k.tmod 5).toNat ⟨q1, q2, q3, q4, q5⟩, .exit 0, xSt r k den (k.tmod 5) ⟨p1, p2, p3, p4, p5⟩ (M.run den (k.tmod 5).toNat ⟨q1, q2, q3, q4, q5⟩))
  | _, _ => none
noncomputable def c28 : Cfg := c27.addL 3 0 xL
theorem c28_ok : CfgOK c28 := addL_ok c27_ok (by kernel_rfl) fun lo st ex st' h => by
  unfold xL at h
  split at h
  · simp only [Option.some.injEq, Prod.mk.injEq, Bool.and_eq_true, decide_eq_true_eq] at h
    obtain ⟨⟨hk, hr⟩, rfl, rfl⟩ := h
    rename_i k r den q1 q2 q3 q4 q5 p1 p2 p3 p4 p5
    have h0 : 0 ≤ k.tmod 5 := Int.tmod_nonneg _ hk
    obtain ⟨m, hm⟩ := x_loop (fun ex st => some (ex, st)) r k den ⟨p1, p2, p3, p4, p5⟩ hk (k.tmod 5).toNat ⟨q1, q2, q3, q4, q5⟩ 0 (by omega) (by omega) hr
    exact ⟨c27, noCall, 0, m, keep 3 0, c27_ok, noCall_ok, rfl, hm⟩
  · cases h
end Go.Proofs.Ytcpidomblalmpaa
