/- The models of conversions: rows in a row, frames that are fed. -/
import Derived.Test.YtooiechjanmdjaaCvG
namespace Go.Proofs.Ytooiechjanmdjaa
open Am
set_option maxRecDepth 100000
set_option linter.unusedVariables false
set_option linter.unusedSimpArgs false
set_option maxHeartbeats 4000000

def m_Grow : List AV → Sto → Option (Bool × AV × Upd × Nat)
  | [.nilsl, .int .i64 n], [] => some (decide (1 ≤ n) && decide (n ≤ 4294967296), .gsl 0 0, [(0, .grow 1 0 (.ints .i32 []))], 1)
  | _, _ => none
noncomputable def y1 : Cfg := x19.addR 103 m_Grow
theorem y1_ok : CfgOK y1 := addR_ok x19_ok fun xs s v u nx h => by
  unfold m_Grow at h; split at h
  · simp only [Option.some.injEq, Prod.mk.injEq, Bool.and_eq_true, decide_eq_true_eq] at h
    obtain ⟨⟨h1, h2⟩, rfl, rfl, rfl⟩ := h
    exact p_Grow _ h1 h2
  · cases h
def m_Grow0 : List AV → Option (Bool × AV)
  | [.nilsl, .int .i64 n] => some (decide (n = 0), .nilsl)
  | _ => none
noncomputable def y0 : Cfg := x19.add 103 m_Grow0
theorem y0_ok : CfgOK y0 := add_ok x19_ok fun xs v h => by
  unfold m_Grow0 at h; split at h
  · simp only [Option.some.injEq, Prod.mk.injEq, decide_eq_true_eq] at h
    obtain ⟨rfl, rfl⟩ := h
    exact p_Grow0
  · cases h
namespace M
def okCat (a b : List Int) : Bool := decide (a.length ≤ 1073741824) && decide (b.length ≤ 1073741824)
end M

theorem e_cat1 (a b : List Int) : callB y1 noCall 10 96 [.vc 1 2 [.vi .i32 a, .vi .i32 b]] [] 0 = (bif decide (M.w64 (0 + (a.length : Int)) < 0) then none else (bif decide (M.w64 (M.w64 (0 + (a.length : Int)) + (b.length : Int)) < 0) then none else (bif decide (1 ≤ M.w64 (M.w64 (0 + (a.length : Int)) + (b.length : Int))) && decide (M.w64 (M.w64 (0 + (a.length : Int)) + (b.length : Int)) ≤ 4294967296) && true then (bif (([] : List Int).length + a.length).ble 4294967296 && true then (bif (([] ++ a : List Int).length + b.length).ble 4294967296 && true then some (.vi .i32 ([] ++ a ++ b), [], 0) else none) else none) else none))) := by kernel_rfl
theorem p_Concat (a b : List Int) (hc : M.okCat a b = true) : PureOK x19.P 96 [.vc 1 2 [.vi .i32 a, .vi .i32 b]] (.vi .i32 (a ++ b)) := by
  unfold M.okCat at hc
  simp only [Bool.and_eq_true, decide_eq_true_eq] at hc
  have w1 : M.w64 (0 + (a.length : Int)) = a.length := by rw [Int.zero_add]; exact w64_in (by omega) (by omega)
  have w2 : M.w64 ((a.length : Int) + (b.length : Int)) = (a.length : Int) + b.length := w64_in (by omega) (by omega)
  by_cases h0 : a.length + b.length = 0
  · have ha : a = [] := List.length_eq_zero_iff.1 (by omega)
    have hb : b = [] := List.length_eq_zero_iff.1 (by omega)
    subst ha; subst hb
    exact pure_of_callB (m := 10) y0_ok noCall_ok (u := []) (nx := 0) (show callB y0 noCall 10 96 [.vc 1 2 [.vi .i32 [], .vi .i32 []]] [] 0 = some (.vi .i32 [], [], 0) by kernel_rfl) rfl
  · refine pure_of_callB (m := 10) y1_ok noCall_ok (u := []) (nx := 0) ((e_cat1 a b).trans ?_) rfl
    rw [w1, w2, decide_eq_false (by omega : ¬ (a.length : Int) < 0), decide_eq_false (by omega : ¬ (a.length : Int) + b.length < 0), decide_eq_true (by omega : 1 ≤ (a.length : Int) + b.length), decide_eq_true (by omega : (a.length : Int) + b.length ≤ 4294967296), List.nil_append,
      show (([] : List Int).length + a.length).ble 4294967296 = true from Nat.ble_eq_true_of_le (by simp; omega), show (a.length + b.length).ble 4294967296 = true from Nat.ble_eq_true_of_le (by omega)]
    rfl
def m_Concat : List AV → Option (Bool × AV)
  | [.vc 1 2 [.vi .i32 a, .vi .i32 b]] => some (M.okCat a b, .vi .i32 (a ++ b))
  | _ => none
noncomputable def y2 : Cfg := x19.add 96 m_Concat
theorem y2_ok : CfgOK y2 := add_ok x19_ok fun xs v h => by
  unfold m_Concat at h; split at h
  · simp only [Option.some.injEq, Prod.mk.injEq] at h; obtain ⟨h1, rfl⟩ := h
    exact p_Concat _ _ h1
  · cases h

end Go.Proofs.Ytooiechjanmdjaa
