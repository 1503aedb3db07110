/- The models of the phase's functions: the two searches. -/
import Derived.Test.YtcpidomblalmpaaPhG
namespace Go.Proofs.Ytcpidomblalmpaa
open Am
set_option maxRecDepth 100000
set_option linter.unusedVariables false
set_option linter.unusedSimpArgs false
namespace M
/-- the least place from i on at which f holds, by halves -/
def srch (f : Int → Bool) : Nat → Int → Int → Int
  | 0, i, _ => i
  | n + 1, i, j => bif decide (i < j) then (bif !f ((i + j) / 2) then srch f n ((i + j) / 2 + 1) j else srch f n i ((i + j) / 2)) else i
/-- the greatest place from i on at which f holds, by halves -/
def grch (f : Int → Bool) : Nat → Int → Int → Int
  | 0, i, _ => i
  | n + 1, i, j => bif decide (i < j) then (bif f ((i + j + 1) / 2) then grch f n ((i + j + 1) / 2) j else grch f n i ((i + j + 1) / 2 - 1)) else i
end M

def sSt (num den adj pos frac lim i j : Int) : St := ⟨[(1, .func 37 [] [.ptr 1 0 5, .ptr 0 0 1]), (5, .int .i64 i), (6, .int .i64 j)], [(0, .fix (.cells [.int .i64 lim])), (1, .fix (.cells [.int .i64 num, .int .i64 den, .int .i64 adj, .int .i64 pos, .int .i64 frac]))], 2⟩
def half (i j : Int) : Int := M.w64 ((IntKind.u64.wrap (M.w64 (i + j))).fdiv 2)
theorem half_eq {i j : Int} (h1 : 0 ≤ i) (h2 : i ≤ j) (h3 : j ≤ 65536) : half i j = (i + j) / 2 := by
  unfold half
  rw [w64_in (n := i + j) (by omega) (by omega)]
  have hu : IntKind.u64.wrap (i + j) = i + j := by
    simp [IntKind.wrap, IntKind.min, IntKind.max, IntKind.signed, IntKind.bits]
    omega
  rw [hu, Int.fdiv_eq_ediv_of_nonneg _ (by omega)]
  exact w64_in (by omega) (by omega)
theorem s_step {R : Type} (num den adj pos frac lim i j : Int) (K : Kont R) : execK d32 36 2 (ntAt Try.prog 36) noCall 0 none (bodyAt Try.prog 36 0) (sSt num den adj pos frac lim i j) (kRes 2 (keep 36 0) K) =
    (bif decide (i < j) then (bif (M.w64 (half i j + 1) == 0 || M.parts den != 0) && true then
        (bif !decide (M.need num den adj frac (M.w64 (half i j + 1)) > lim) then K .normal (sSt num den adj pos frac lim (M.w64 (half i j + 1)) j) else K .normal (sSt num den adj pos frac lim i (half i j)))
      else none) else K (.exit 0) (sSt num den adj pos frac lim i j)) := by kernel_rfl
/-- what the search asks -/
def over (num den adj frac lim : Int) (k : Int) : Bool := decide (M.need num den adj frac (k + 1) > lim)
theorem s_loop {R : Type} (K : Kont R) (num den adj pos frac lim : Int) (hp : (M.parts den != 0) = true) : ∀ (n : Nat) (i j : Int), 0 ≤ i → i ≤ j → j ≤ 65536 → (j - i).toNat < n →
    ∃ m, loopK 2 (keep 36 0) (execK d32 36 2 (ntAt Try.prog 36) noCall 0 none (bodyAt Try.prog 36 0)) m (sSt num den adj pos frac lim i j) K =
      K (.exit 0) (sSt num den adj pos frac lim (M.srch (over num den adj frac lim) n i j) (M.srch (over num den adj frac lim) n i j)) := by
  intro n
  induction n with
  | zero => intro i j _ _ _ h; omega
  | succ n ih =>
    intro i j h1 h2 h3 h4
    by_cases hij : i < j
    · have hh := half_eq h1 h2 h3
      have hw : M.w64 ((i + j) / 2 + 1) = (i + j) / 2 + 1 := w64_in (by omega) (by omega)
      cases hf : over num den adj frac lim ((i + j) / 2) with
      | true =>
        obtain ⟨m, hm⟩ := ih i ((i + j) / 2) h1 (by omega) (by omega) (by omega)
        refine ⟨m + 1, ?_⟩
        rw [loopK_step, s_step, hh, hw, decide_eq_true hij, hp, Bool.or_true]
        unfold over at hf
        rw [hf]
        unfold M.srch
        rw [decide_eq_true hij]
        have hf' : over num den adj frac lim ((i + j) / 2) = true := hf
        rw [hf']
        exact hm
      | false =>
        obtain ⟨m, hm⟩ := ih ((i + j) / 2 + 1) j (by omega) (by omega) h3 (by omega)
        refine ⟨m + 1, ?_⟩
        rw [loopK_step, s_step, hh, hw, decide_eq_true hij, hp, Bool.or_true]
        unfold over at hf
        rw [hf]
        unfold M.srch
        rw [decide_eq_true hij]
        have hf' : over num den adj frac lim ((i + j) / 2) = false := hf
        rw [hf']
        exact hm
    · have e : j = i := by omega
      subst e
      refine ⟨1, ?_⟩
      rw [loopK_step, s_step, decide_eq_false hij]
      unfold M.srch
      rw [decide_eq_false hij]
      rfl
end Go.Proofs.Ytcpidomblalmpaa
