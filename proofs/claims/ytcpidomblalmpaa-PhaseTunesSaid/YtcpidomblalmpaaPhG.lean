/- The models of the phase's functions: how many frames are needed. -/
import Derived.Test.YtcpidomblalmpaaPhF
namespace Go.Proofs.Ytcpidomblalmpaa
open Am
set_option maxRecDepth 100000
set_option linter.unusedVariables false
set_option linter.unusedSimpArgs false
namespace M
def mx (a b : Int) : Int := if b > a then b else a
def need (num den adj frac n : Int) : Int := bif n == 0 then 0 else mx (w64 (w64 ((ahead num adj frac (w64 (n - 1))).tdiv (parts den)) + 2)) (w64 ((ahead num adj frac n).tdiv (parts den)))
def ndV (num den adj pos frac n : Int) : Int := bif chk num den adj pos frac n != 0 then 0 else need num den adj frac n
def rNd (num den adj pos frac n : Int) : Int := bif chk num den adj pos frac n != 0 then 0 else bif n == 0 then 0 else w64 (mx (w64 (rAtP num den adj pos frac (w64 (n - 1)) + 2)) (rAtP num den adj pos frac n) - pos)
end M
theorem chk_zero {num den adj pos frac n : Int} (h : M.chk num den adj pos frac n = 0) : PV ⟨num, den, adj, pos, frac⟩ ∧ 0 ≤ n ∧ n ≤ 65536 := by
  unfold M.chk at h
  cases hv : M.valid num den adj pos frac with
  | false => simp [hv] at h
  | true =>
    rw [hv] at h
    by_cases h1 : n < 0
    · rw [decide_eq_true h1] at h; simp at h
    · by_cases h2 : n > 65536
      · rw [decide_eq_false h1, decide_eq_true h2] at h; simp at h
      · exact ⟨hv, by omega, by omega⟩

theorem e35 (num den adj pos frac n : Int) (h : (n == 0 || M.parts den != 0) = true) : callB d28 noCall 0 35 [.agg [.int .i64 num, .int .i64 den, .int .i64 adj, .int .i64 pos, .int .i64 frac], .int .i64 n] [] 0 = some (.int .i64 (M.need num den adj frac n), [], 0) := by
  refine (show callB d28 noCall 0 35 [.agg [.int .i64 num, .int .i64 den, .int .i64 adj, .int .i64 pos, .int .i64 frac], .int .i64 n] [] 0 = (bif n == 0 then some (.int .i64 0, [], 0) else bif M.parts den != 0 && true then bif M.parts den != 0 && true then some (.int .i64 (M.mx (M.w64 (M.w64 ((M.ahead num adj frac (M.w64 (n - 1))).tdiv (M.parts den)) + 2)) (M.w64 ((M.ahead num adj frac n).tdiv (M.parts den)))), [], 0) else none else none) by kernel_rfl).trans ?_
  unfold M.need
  cases hn : n == 0 with
  | true => rfl
  | false =>
    rw [hn, Bool.false_or] at h
    simp only [h, Bool.and_true, cond_true, cond_false]
def m35 : List AV → Option (Bool × AV)
  | [.agg [.int .i64 num, .int .i64 den, .int .i64 adj, .int .i64 pos, .int .i64 frac], .int .i64 n] => some ((n == 0 || M.parts den != 0), .int .i64 (M.need num den adj frac n))
  | _ => none
noncomputable def d29 : Cfg := d28.add 35 m35
theorem d29_ok : CfgOK d29 := add_ok d28_ok fun xs v h => by
  unfold m35 at h; split at h
  · simp only [Option.some.injEq, Prod.mk.injEq] at h; obtain ⟨h1, rfl⟩ := h; exact pure_of_callB d28_ok noCall_ok (e35 _ _ _ _ _ _ h1) rfl
  · cases h
theorem e21 (num den adj pos frac n : Int) : callB d29 noCall 0 21 [.agg [.int .i64 num, .int .i64 den, .int .i64 adj, .int .i64 pos, .int .i64 frac], .int .i64 n] [] 0 = some (.tuple [.int .i64 (M.ndV num den adj pos frac n), .int .i64 (M.chk num den adj pos frac n)], [], 0) := by
  refine (show callB d29 noCall 0 21 [.agg [.int .i64 num, .int .i64 den, .int .i64 adj, .int .i64 pos, .int .i64 frac], .int .i64 n] [] 0 = (bif M.chk num den adj pos frac n != 0 then some (.tuple [.int .i64 0, .int .i64 (M.chk num den adj pos frac n)], [], 0) else bif (n == 0 || M.parts den != 0) && true then some (.tuple [.int .i64 (M.need num den adj frac n), .int .i64 0], [], 0) else none) by kernel_rfl).trans ?_
  unfold M.ndV
  cases hc : M.chk num den adj pos frac n != 0 with
  | true => rfl
  | false =>
    have h0 : M.chk num den adj pos frac n = 0 := by simpa using hc
    have hv := valid_den (chk_zero h0).1
    simp only [hv, Bool.or_true, Bool.and_true, cond_true, cond_false]
    rw [h0]
def m21 : List AV → Option (Bool × AV)
  | [.agg [.int .i64 num, .int .i64 den, .int .i64 adj, .int .i64 pos, .int .i64 frac], .int .i64 n] => some (true, .tuple [.int .i64 (M.ndV num den adj pos frac n), .int .i64 (M.chk num den adj pos frac n)])
  | _ => none
noncomputable def d30 : Cfg := d29.add 21 m21
theorem d30_ok : CfgOK d30 := add_ok d29_ok fun xs v h => by
  unfold m21 at h; split at h
  · cases h; exact pure_of_callB d29_ok noCall_ok (e21 _ _ _ _ _ _) rfl
  · cases h
theorem e22 (num den adj pos frac n : Int) : callB d30 noCall 0 22 [.agg [.int .i64 num, .int .i64 den, .int .i64 adj, .int .i64 pos, .int .i64 frac], .int .i64 n] [] 0 = some (.tuple [.int .i64 (M.rNd num den adj pos frac n), .int .i64 (M.chk num den adj pos frac n)], [], 0) := by
  refine (show callB d30 noCall 0 22 [.agg [.int .i64 num, .int .i64 den, .int .i64 adj, .int .i64 pos, .int .i64 frac], .int .i64 n] [] 0 = (bif M.chk num den adj pos frac n != 0 then some (.tuple [.int .i64 0, .int .i64 (M.chk num den adj pos frac n)], [], 0) else bif n == 0 then some (.tuple [.int .i64 0, .int .i64 0], [], 0) else some (.tuple [.int .i64 (M.w64 (M.mx (M.w64 (M.rAtP num den adj pos frac (M.w64 (n - 1)) + 2)) (M.rAtP num den adj pos frac n) - pos)), .int .i64 0], [], 0)) by kernel_rfl).trans ?_
  unfold M.rNd
  cases hc : M.chk num den adj pos frac n != 0 with
  | true => rfl
  | false =>
    have h0 : M.chk num den adj pos frac n = 0 := by simpa using hc
    rw [h0]
    cases n == 0 <;> rfl
def m22 : List AV → Option (Bool × AV)
  | [.agg [.int .i64 num, .int .i64 den, .int .i64 adj, .int .i64 pos, .int .i64 frac], .int .i64 n] => some (true, .tuple [.int .i64 (M.rNd num den adj pos frac n), .int .i64 (M.chk num den adj pos frac n)])
  | _ => none
noncomputable def d31 : Cfg := d30.add 22 m22
theorem d31_ok : CfgOK d31 := add_ok d30_ok fun xs v h => by
  unfold m22 at h; split at h
  · cases h; exact pure_of_callB d30_ok noCall_ok (e22 _ _ _ _ _ _) rfl
  · cases h
theorem e37 (num den adj pos frac n lim : Int) (hc : (M.w64 (n + 1) == 0 || M.parts den != 0) = true) : callB d31 noCall 0 37 [.int .i64 n, .ptr 1 0 5, .ptr 0 0 1] [(0, .fix (.cells [.int .i64 lim])), (1, .fix (.cells [.int .i64 num, .int .i64 den, .int .i64 adj, .int .i64 pos, .int .i64 frac]))] 2 = some (.bool (decide (M.need num den adj frac (M.w64 (n + 1)) > lim)), [(0, .fix (.cells [.int .i64 lim])), (1, .fix (.cells [.int .i64 num, .int .i64 den, .int .i64 adj, .int .i64 pos, .int .i64 frac]))], 2) := by
  refine (show callB d31 noCall 0 37 [.int .i64 n, .ptr 1 0 5, .ptr 0 0 1] [(0, .fix (.cells [.int .i64 lim])), (1, .fix (.cells [.int .i64 num, .int .i64 den, .int .i64 adj, .int .i64 pos, .int .i64 frac]))] 2 = (bif (M.w64 (n + 1) == 0 || M.parts den != 0) && true then some (.bool (decide (M.need num den adj frac (M.w64 (n + 1)) > lim)), [(0, .fix (.cells [.int .i64 lim])), (1, .fix (.cells [.int .i64 num, .int .i64 den, .int .i64 adj, .int .i64 pos, .int .i64 frac]))], 2) else none) by kernel_rfl).trans ?_
  rw [hc]; rfl
def m37 : List AV → Sto → Option (Bool × AV × Upd × Nat)
  | [.int .i64 n, .ptr 1 0 5, .ptr 0 0 1], [(0, .fix (.cells [.int .i64 lim])), (1, .fix (.cells [.int .i64 num, .int .i64 den, .int .i64 adj, .int .i64 pos, .int .i64 frac]))] => some ((M.w64 (n + 1) == 0 || M.parts den != 0), .bool (decide (M.need num den adj frac (M.w64 (n + 1)) > lim)), [(0, .fix (.cells [.int .i64 lim])), (1, .fix (.cells [.int .i64 num, .int .i64 den, .int .i64 adj, .int .i64 pos, .int .i64 frac]))], 2)
  | _, _ => none
noncomputable def d32 : Cfg := d31.addR 37 m37
theorem d32_ok : CfgOK d32 := addR_ok d31_ok fun xs s v u nx h => by
  unfold m37 at h; split at h
  · simp only [Option.some.injEq, Prod.mk.injEq] at h; obtain ⟨h1, rfl, rfl, rfl⟩ := h; exact callB_ok d31_ok noCall_ok 0 _ _ _ _ _ _ _ (e37 _ _ _ _ _ _ _ h1)
  · cases h
end Go.Proofs.Ytcpidomblalmpaa
