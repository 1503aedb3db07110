/- The models of the phase's functions: how many frames can be made. -/
import Derived.Test.YtcpidomblalmpaaPhH
namespace Go.Proofs.Ytcpidomblalmpaa
open Am
set_option maxRecDepth 100000
set_option linter.unusedVariables false
set_option linter.unusedSimpArgs false
def sL : Nat → St → Option (Bool × Ex × St)
  | 2, ⟨[(1, .func 37 [] [.ptr 1 0 5, .ptr 0 0 1]), (5, .int .i64 0), (6, .int .i64 65536)], [(0, .fix (.cells [.int .i64 lim])), (1, .fix (.cells [.int .i64 num, .int .i64 den, .int .i64 adj, .int .i64 pos, .int .i64 frac]))], 2⟩ =>
    some (M.parts den != 0, .exit 0, sSt num den adj pos frac lim (M.srch (over num den adj frac lim) 65537 0 65536) (M.srch (over num den adj frac lim) 65537 0 65536))
  | _, _ => none
noncomputable def d33 : Cfg := d32.addL 36 0 sL
theorem d33_ok : CfgOK d33 := addL_ok d32_ok (by kernel_rfl) fun lo st ex st' h => by
  unfold sL at h
  split at h
  · simp only [Option.some.injEq, Prod.mk.injEq] at h
    obtain ⟨hp, rfl, rfl⟩ := h
    rename_i lim num den adj pos frac
    obtain ⟨m, hm⟩ := s_loop (fun ex st => some (ex, st)) num den adj pos frac lim hp 65537 0 65536 (by omega) (by omega) (by omega) (by omega)
    exact ⟨d32, noCall, 0, m, keep 36 0, d32_ok, noCall_ok, rfl, hm⟩
  · cases h

theorem e36 (num den adj pos frac lim : Int) (hc : (M.parts den != 0) = true) : callB d33 noCall 0 36 [.int .i64 65536, .func 37 [] [.ptr 1 0 5, .ptr 0 0 1]] [(0, .fix (.cells [.int .i64 lim])), (1, .fix (.cells [.int .i64 num, .int .i64 den, .int .i64 adj, .int .i64 pos, .int .i64 frac]))] 2 = some (.int .i64 (M.srch (over num den adj frac lim) 65537 0 65536), [(0, .fix (.cells [.int .i64 lim])), (1, .fix (.cells [.int .i64 num, .int .i64 den, .int .i64 adj, .int .i64 pos, .int .i64 frac]))], 2) := by
  refine (show callB d33 noCall 0 36 [.int .i64 65536, .func 37 [] [.ptr 1 0 5, .ptr 0 0 1]] [(0, .fix (.cells [.int .i64 lim])), (1, .fix (.cells [.int .i64 num, .int .i64 den, .int .i64 adj, .int .i64 pos, .int .i64 frac]))] 2 = (bif M.parts den != 0 then some (.int .i64 (M.srch (over num den adj frac lim) 65537 0 65536), [(0, .fix (.cells [.int .i64 lim])), (1, .fix (.cells [.int .i64 num, .int .i64 den, .int .i64 adj, .int .i64 pos, .int .i64 frac]))], 2) else none) by kernel_rfl).trans ?_
  rw [hc]; rfl
def m36 : List AV → Sto → Option (Bool × AV × Upd × Nat)
  | [.int .i64 65536, .func 37 [] [.ptr 1 0 5, .ptr 0 0 1]], [(0, .fix (.cells [.int .i64 lim])), (1, .fix (.cells [.int .i64 num, .int .i64 den, .int .i64 adj, .int .i64 pos, .int .i64 frac]))] => some ((M.parts den != 0), .int .i64 (M.srch (over num den adj frac lim) 65537 0 65536), [(0, .fix (.cells [.int .i64 lim])), (1, .fix (.cells [.int .i64 num, .int .i64 den, .int .i64 adj, .int .i64 pos, .int .i64 frac]))], 2)
  | _, _ => none
noncomputable def d34 : Cfg := d33.addR 36 m36
theorem d34_ok : CfgOK d34 := addR_ok d33_ok fun xs s v u nx h => by
  unfold m36 at h; split at h
  · simp only [Option.some.injEq, Prod.mk.injEq] at h; obtain ⟨h1, rfl, rfl, rfl⟩ := h; exact callB_ok d33_ok noCall_ok 0 _ _ _ _ _ _ _ (e36 _ _ _ _ _ _ h1)
  · cases h
namespace M
def mkErr (num den adj pos frac lim : Int) : Int := bif !valid num den adj pos frac then 1 else bif !decide (lim < 0) then (bif decide (lim > 1099511627776) then 2 else 0) else 2
end M
def under (num den adj pos frac lim : Int) (k : Int) : Bool := decide (M.rNd num den adj pos frac k ≤ lim)
namespace M
def mkCnt (num den adj pos frac lim : Int) : Int := bif mkErr num den adj pos frac lim != 0 then 0 else srch (over num den adj frac lim) 65537 0 65536
def rCnt (num den adj pos frac lim : Int) : Int := bif mkErr num den adj pos frac lim != 0 then 0 else grch (under num den adj pos frac lim) 65537 0 65536
end M
theorem e23 (num den adj pos frac lim : Int) : callB d34 noCall 0 23 [.agg [.int .i64 num, .int .i64 den, .int .i64 adj, .int .i64 pos, .int .i64 frac], .int .i64 lim] [] 0 = some (.tuple [.int .i64 (M.mkCnt num den adj pos frac lim), .int .i64 (M.mkErr num den adj pos frac lim)], [], 0) := by
  refine (show callB d34 noCall 0 23 [.agg [.int .i64 num, .int .i64 den, .int .i64 adj, .int .i64 pos, .int .i64 frac], .int .i64 lim] [] 0 = (bif !M.valid num den adj pos frac then some (.tuple [.int .i64 (0), .int .i64 1], [], 0) else bif !decide (lim < 0) then bif decide (lim > 1099511627776) then some (.tuple [.int .i64 (0), .int .i64 2], [], 0) else bif M.parts den != 0 && true then some (.tuple [.int .i64 (M.srch (over num den adj frac lim) 65537 0 65536), .int .i64 0], [], 0) else none else some (.tuple [.int .i64 (0), .int .i64 2], [], 0)) by kernel_rfl).trans ?_
  unfold M.mkCnt M.mkErr
  cases hv : M.valid num den adj pos frac with
  | false => rfl
  | true =>
    have hp := valid_den hv
    cases h1 : decide (lim < 0) with
    | true => rfl
    | false =>
      cases h2 : decide (lim > 1099511627776) with
      | true => rfl
      | false => rw [hp]; rfl
def m23 : List AV → Option (Bool × AV)
  | [.agg [.int .i64 num, .int .i64 den, .int .i64 adj, .int .i64 pos, .int .i64 frac], .int .i64 lim] => some (true, .tuple [.int .i64 (M.mkCnt num den adj pos frac lim), .int .i64 (M.mkErr num den adj pos frac lim)])
  | _ => none
noncomputable def d35 : Cfg := d34.add 23 m23
theorem d35_ok : CfgOK d35 := add_ok d34_ok fun xs v h => by
  unfold m23 at h; split at h
  · cases h; exact pure_of_callB d34_ok noCall_ok (e23 _ _ _ _ _ _) rfl
  · cases h
def gSt (num den adj pos frac lim i j : Int) : St := ⟨[(1, .int .i64 lim), (2, .ptr 0 0 5), (4, .int .i64 0), (5, .int .i64 0), (6, .int .i64 i), (7, .int .i64 j)], [(0, .fix (.cells [.int .i64 num, .int .i64 den, .int .i64 adj, .int .i64 pos, .int .i64 frac]))], 1⟩
def gmid (i j : Int) : Int := M.w64 ((M.w64 (M.w64 (i + j) + 1)).tdiv 2)
theorem gmid_eq {i j : Int} (h1 : 0 ≤ i) (h2 : i ≤ j) (h3 : j ≤ 65536) : gmid i j = (i + j + 1) / 2 := by
  unfold gmid
  rw [w64_in (n := i + j) (by omega) (by omega), w64_in (n := i + j + 1) (by omega) (by omega), Int.tdiv_eq_ediv_of_nonneg (by omega)]
  exact w64_in (by omega) (by omega)
theorem g_step {R : Type} (num den adj pos frac lim i j : Int) (K : Kont R) : execK d35 24 0 (ntAt Try.prog 24) noCall 0 none (bodyAt Try.prog 24 0) (gSt num den adj pos frac lim i j) (kRes 0 (keep 24 0) K) =
    (bif decide (i < j) then (bif under num den adj pos frac lim (gmid i j) then K .normal (gSt num den adj pos frac lim (gmid i j) j) else K .normal (gSt num den adj pos frac lim i (M.w64 (gmid i j - 1)))) else K (.exit 0) (gSt num den adj pos frac lim i j)) := by kernel_rfl
theorem g_loop {R : Type} (K : Kont R) (num den adj pos frac lim : Int) : ∀ (n : Nat) (i j : Int), 0 ≤ i → i ≤ j → j ≤ 65536 → (j - i).toNat < n →
    ∃ m, loopK 0 (keep 24 0) (execK d35 24 0 (ntAt Try.prog 24) noCall 0 none (bodyAt Try.prog 24 0)) m (gSt num den adj pos frac lim i j) K =
      K (.exit 0) (gSt num den adj pos frac lim (M.grch (under num den adj pos frac lim) n i j) (M.grch (under num den adj pos frac lim) n i j)) := by
  intro n
  induction n with
  | zero => intro i j _ _ _ h; omega
  | succ n ih =>
    intro i j h1 h2 h3 h4
    by_cases hij : i < j
    · have hh := gmid_eq h1 h2 h3
      have hw : M.w64 ((i + j + 1) / 2 - 1) = (i + j + 1) / 2 - 1 := w64_in (by omega) (by omega)
      cases hf : under num den adj pos frac lim ((i + j + 1) / 2) with
      | true =>
        obtain ⟨m, hm⟩ := ih ((i + j + 1) / 2) j (by omega) (by omega) h3 (by omega)
        refine ⟨m + 1, ?_⟩
        rw [loopK_step, g_step, hh, decide_eq_true hij, hf]
        unfold M.grch
        rw [decide_eq_true hij, hf]
        exact hm
      | false =>
        obtain ⟨m, hm⟩ := ih i ((i + j + 1) / 2 - 1) h1 (by omega) (by omega) (by omega)
        refine ⟨m + 1, ?_⟩
        rw [loopK_step, g_step, hh, hw, decide_eq_true hij, hf]
        unfold M.grch
        rw [decide_eq_true hij, hf]
        exact hm
    · have e : j = i := by omega
      subst e
      refine ⟨1, ?_⟩
      rw [loopK_step, g_step, decide_eq_false hij]
      unfold M.grch
      rw [decide_eq_false hij]
      rfl
def gL : Nat → St → Option (Bool × Ex × St)
  | 0, ⟨[(1, .int .i64 lim), (2, .ptr 0 0 5), (4, .int .i64 0), (5, .int .i64 0), (6, .int .i64 0), (7, .int .i64 65536)], [(0, .fix (.cells [.int .i64 num, .int .i64 den, .int .i64 adj, .int .i64 pos, .int .i64 frac]))], 1⟩ =>
    some (true, .exit 0, gSt num den adj pos frac lim (M.grch (under num den adj pos frac lim) 65537 0 65536) (M.grch (under num den adj pos frac lim) 65537 0 65536))
  | _, _ => none
noncomputable def d36 : Cfg := d35.addL 24 0 gL
theorem d36_ok : CfgOK d36 := addL_ok d35_ok (by kernel_rfl) fun lo st ex st' h => by
  unfold gL at h
  split at h
  · simp only [Option.some.injEq, Prod.mk.injEq, true_and] at h
    obtain ⟨rfl, rfl⟩ := h
    rename_i lim num den adj pos frac
    obtain ⟨m, hm⟩ := g_loop (fun ex st => some (ex, st)) num den adj pos frac lim 65537 0 65536 (by omega) (by omega) (by omega) (by omega)
    exact ⟨d35, noCall, 0, m, keep 24 0, d35_ok, noCall_ok, rfl, hm⟩
  · cases h
theorem e24 (num den adj pos frac lim : Int) : callB d36 noCall 0 24 [.agg [.int .i64 num, .int .i64 den, .int .i64 adj, .int .i64 pos, .int .i64 frac], .int .i64 lim] [] 0 = some (.tuple [.int .i64 (M.rCnt num den adj pos frac lim), .int .i64 (M.mkErr num den adj pos frac lim)], [], 0) := by
  refine (show callB d36 noCall 0 24 [.agg [.int .i64 num, .int .i64 den, .int .i64 adj, .int .i64 pos, .int .i64 frac], .int .i64 lim] [] 0 = (bif !M.valid num den adj pos frac then some (.tuple [.int .i64 (0), .int .i64 1], [], 0) else bif !decide (lim < 0) then bif decide (lim > 1099511627776) then some (.tuple [.int .i64 (0), .int .i64 2], [], 0) else some (.tuple [.int .i64 (M.grch (under num den adj pos frac lim) 65537 0 65536), .int .i64 0], [], 0) else some (.tuple [.int .i64 (0), .int .i64 2], [], 0)) by kernel_rfl).trans ?_
  unfold M.rCnt M.mkErr
  cases hv : M.valid num den adj pos frac with
  | false => rfl
  | true =>
    cases h1 : decide (lim < 0) with
    | true => rfl
    | false => cases h2 : decide (lim > 1099511627776) <;> rfl
def m24 : List AV → Option (Bool × AV)
  | [.agg [.int .i64 num, .int .i64 den, .int .i64 adj, .int .i64 pos, .int .i64 frac], .int .i64 lim] => some (true, .tuple [.int .i64 (M.rCnt num den adj pos frac lim), .int .i64 (M.mkErr num den adj pos frac lim)])
  | _ => none
noncomputable def d37 : Cfg := d36.add 24 m24
theorem d37_ok : CfgOK d37 := add_ok d36_ok fun xs v h => by
  unfold m24 at h; split at h
  · cases h; exact pure_of_callB d36_ok noCall_ok (e24 _ _ _ _ _ _) rfl
  · cases h
end Go.Proofs.Ytcpidomblalmpaa
