/- The models of the phase's functions: validity, parts, and the way ahead. -/
import Derived.Test.YtcpidomblalmpaaPhA
namespace Go.Proofs.Ytcpidomblalmpaa
open Am
set_option maxRecDepth 100000
set_option linter.unusedVariables false
theorem condCases {α : Type} {c : Bool} {X Y Z : α} (h1 : c = true → X = Z) (h2 : c = false → Y = Z) : (bif c then X else Y) = Z := by
  cases c
  · exact h2 rfl
  · exact h1 rfl

theorem e40 (a b : Int) : callB c1 noCall 0 40 [.int .i64 a, .int .i64 b] [] 0 = some (.int .i64 (M.gcdT a b), [], 0) := by
  kernel_rfl
def m40 : List AV → Option (Bool × AV)
  | [.int .i64 a, .int .i64 b] => some (true, .int .i64 (M.gcdT a b))
  | _ => none
noncomputable def c2 : Cfg := c1.add 40 m40
theorem c2_ok : CfgOK c2 := add_ok c1_ok fun xs v h => by
  unfold m40 at h; split at h
  · cases h; exact pure_of_callB c1_ok noCall_ok (e40 _ _) rfl
  · cases h
theorem e41 (a b : Int) : callB c2 noCall 0 41 [.int .i64 a, .int .i64 b] [] 0 = some (.int .i64 (M.gcdT a b), [], 0) := by
  kernel_rfl
def m41 : List AV → Option (Bool × AV)
  | [.int .i64 a, .int .i64 b] => some (true, .int .i64 (M.gcdT a b))
  | _ => none
noncomputable def c3 : Cfg := c2.add 41 m41
theorem c3_ok : CfgOK c3 := add_ok c2_ok fun xs v h => by
  unfold m41 at h; split at h
  · cases h; exact pure_of_callB c2_ok noCall_ok (e41 _ _) rfl
  · cases h
theorem e29 (num den adj pos frac : Int) : callB c3 noCall 0 29 [.agg [.int .i64 num, .int .i64 den, .int .i64 adj, .int .i64 pos, .int .i64 frac]] [] 0 = some (.int .i64 (M.parts den), [], 0) := by
  kernel_rfl
def m29 : List AV → Option (Bool × AV)
  | [.agg [.int .i64 num, .int .i64 den, .int .i64 adj, .int .i64 pos, .int .i64 frac]] => some (true, .int .i64 (M.parts den))
  | _ => none
noncomputable def c4 : Cfg := c3.add 29 m29
theorem c4_ok : CfgOK c4 := add_ok c3_ok fun xs v h => by
  unfold m29 at h; split at h
  · cases h; exact pure_of_callB c3_ok noCall_ok (e29 _ _ _ _ _) rfl
  · cases h
theorem e31 (num den adj pos frac : Int) : callB c4 noCall 0 31 [.agg [.int .i64 num, .int .i64 den, .int .i64 adj, .int .i64 pos, .int .i64 frac]] [] 0 = some (.int .i64 (M.parts den), [], 0) := by
  kernel_rfl
def m31 : List AV → Option (Bool × AV)
  | [.agg [.int .i64 num, .int .i64 den, .int .i64 adj, .int .i64 pos, .int .i64 frac]] => some (true, .int .i64 (M.parts den))
  | _ => none
noncomputable def c5 : Cfg := c4.add 31 m31
theorem c5_ok : CfgOK c5 := add_ok c4_ok fun xs v h => by
  unfold m31 at h; split at h
  · cases h; exact pure_of_callB c4_ok noCall_ok (e31 _ _ _ _ _) rfl
  · cases h
theorem e30 (num den adj pos frac : Int) : callB c5 noCall 0 30 [.agg [.int .i64 num, .int .i64 den, .int .i64 adj, .int .i64 pos, .int .i64 frac]] [] 0 = some (.int .i64 (M.step num adj), [], 0) := by
  kernel_rfl
def m30 : List AV → Option (Bool × AV)
  | [.agg [.int .i64 num, .int .i64 den, .int .i64 adj, .int .i64 pos, .int .i64 frac]] => some (true, .int .i64 (M.step num adj))
  | _ => none
noncomputable def c6 : Cfg := c5.add 30 m30
theorem c6_ok : CfgOK c6 := add_ok c5_ok fun xs v h => by
  unfold m30 at h; split at h
  · cases h; exact pure_of_callB c5_ok noCall_ok (e30 _ _ _ _ _) rfl
  · cases h
theorem e28 (num den adj pos frac n : Int) : callB c6 noCall 0 28 [.agg [.int .i64 num, .int .i64 den, .int .i64 adj, .int .i64 pos, .int .i64 frac], .int .i64 n] [] 0 = some (.int .i64 (M.ahead num adj frac n), [], 0) := by
  kernel_rfl
def m28 : List AV → Option (Bool × AV)
  | [.agg [.int .i64 num, .int .i64 den, .int .i64 adj, .int .i64 pos, .int .i64 frac], .int .i64 n] => some (true, .int .i64 (M.ahead num adj frac n))
  | _ => none
noncomputable def c7 : Cfg := c6.add 28 m28
theorem c7_ok : CfgOK c7 := add_ok c6_ok fun xs v h => by
  unfold m28 at h; split at h
  · cases h; exact pure_of_callB c6_ok noCall_ok (e28 _ _ _ _ _ _) rfl
  · cases h
theorem e32 (adj : Int) : callB c7 noCall 0 32 [.int .i64 adj] [] 0 = some (.bool (M.tuned adj), [], 0) := by
  refine (show callB c7 noCall 0 32 [.int .i64 adj] [] 0 = bif decide (adj ≥ -4096) then some (AV.bool (decide (adj ≤ 4096)), [], 0) else some (AV.bool false, [], 0) by kernel_rfl).trans ?_
  unfold M.tuned
  repeat' (refine condCases (fun h => ?_) (fun h => ?_))
  all_goals (first | rfl | (simp only [*, Bool.false_and, Bool.and_false, Bool.true_and, Bool.and_true]; done) | (simp only [*, Bool.false_and, Bool.and_false, Bool.true_and, Bool.and_true]; rfl))
def m32 : List AV → Option (Bool × AV)
  | [.int .i64 adj] => some (true, .bool (M.tuned adj))
  | _ => none
noncomputable def c8 : Cfg := c7.add 32 m32
theorem c8_ok : CfgOK c8 := add_ok c7_ok fun xs v h => by
  unfold m32 at h; split at h
  · cases h; exact pure_of_callB c7_ok noCall_ok (e32 _) rfl
  · cases h
theorem e33 (num den : Int) : callB c8 noCall 0 33 [.agg [.int .i64 num, .int .i64 den]] [] 0 = some (.bool (M.ratioValid num den), [], 0) := by
  refine (show callB c8 noCall 0 33 [.agg [.int .i64 num, .int .i64 den]] [] 0 = (bif decide (num ≥ 1) then (bif decide (den ≥ 1) then (bif decide (num ≤ 68719476736) then (bif decide (den ≤ 68719476736) then some (AV.bool (M.gcdT num den == 1), [], 0) else some (AV.bool false, [], 0)) else some (AV.bool false, [], 0)) else some (AV.bool false, [], 0)) else some (AV.bool false, [], 0)) by kernel_rfl).trans ?_
  unfold M.ratioValid
  repeat' (refine condCases (fun h => ?_) (fun h => ?_))
  all_goals (first | rfl | (simp only [*, Bool.false_and, Bool.and_false, Bool.true_and, Bool.and_true]; done) | (simp only [*, Bool.false_and, Bool.and_false, Bool.true_and, Bool.and_true]; rfl))
def m33 : List AV → Option (Bool × AV)
  | [.agg [.int .i64 num, .int .i64 den]] => some (true, .bool (M.ratioValid num den))
  | _ => none
noncomputable def c9 : Cfg := c8.add 33 m33
theorem c9_ok : CfgOK c9 := add_ok c8_ok fun xs v h => by
  unfold m33 at h; split at h
  · cases h; exact pure_of_callB c8_ok noCall_ok (e33 _ _) rfl
  · cases h
theorem e34 (num den : Int) : callB c9 noCall 0 34 [.agg [.int .i64 num, .int .i64 den]] [] 0 = some (.bool (M.ratioValid num den), [], 0) := by
  refine (show callB c9 noCall 0 34 [.agg [.int .i64 num, .int .i64 den]] [] 0 = (bif decide (num ≥ 1) then (bif decide (den ≥ 1) then (bif decide (num ≤ 68719476736) then (bif decide (den ≤ 68719476736) then some (AV.bool (M.gcdT num den == 1), [], 0) else some (AV.bool false, [], 0)) else some (AV.bool false, [], 0)) else some (AV.bool false, [], 0)) else some (AV.bool false, [], 0)) by kernel_rfl).trans ?_
  unfold M.ratioValid
  repeat' (refine condCases (fun h => ?_) (fun h => ?_))
  all_goals (first | rfl | (simp only [*, Bool.false_and, Bool.and_false, Bool.true_and, Bool.and_true]; done) | (simp only [*, Bool.false_and, Bool.and_false, Bool.true_and, Bool.and_true]; rfl))
def m34 : List AV → Option (Bool × AV)
  | [.agg [.int .i64 num, .int .i64 den]] => some (true, .bool (M.ratioValid num den))
  | _ => none
noncomputable def c10 : Cfg := c9.add 34 m34
theorem c10_ok : CfgOK c10 := add_ok c9_ok fun xs v h => by
  unfold m34 at h; split at h
  · cases h; exact pure_of_callB c9_ok noCall_ok (e34 _ _) rfl
  · cases h
theorem e17 (num den adj pos frac : Int) : callB c10 noCall 0 17 [.agg [.int .i64 num, .int .i64 den, .int .i64 adj, .int .i64 pos, .int .i64 frac]] [] 0 = some (.bool (M.valid num den adj pos frac), [], 0) := by
  refine (show callB c10 noCall 0 17 [.agg [.int .i64 num, .int .i64 den, .int .i64 adj, .int .i64 pos, .int .i64 frac]] [] 0 = (bif M.ratioValid num den then (bif decide (num ≤ 768000) then (bif decide (den ≤ 768000) then (bif M.tuned adj then (bif decide (pos ≥ 0) then (bif decide (pos ≤ 1125899906842624) then (bif decide (frac ≥ 0) then some (AV.bool (decide (frac < M.parts den)), [], 0) else some (AV.bool false, [], 0)) else some (AV.bool false, [], 0)) else some (AV.bool false, [], 0)) else some (AV.bool false, [], 0)) else some (AV.bool false, [], 0)) else some (AV.bool false, [], 0)) else some (AV.bool false, [], 0)) by kernel_rfl).trans ?_
  unfold M.valid
  repeat' (refine condCases (fun h => ?_) (fun h => ?_))
  all_goals (first | rfl | (simp only [*, Bool.false_and, Bool.and_false, Bool.true_and, Bool.and_true]; done) | (simp only [*, Bool.false_and, Bool.and_false, Bool.true_and, Bool.and_true]; rfl))
def m17 : List AV → Option (Bool × AV)
  | [.agg [.int .i64 num, .int .i64 den, .int .i64 adj, .int .i64 pos, .int .i64 frac]] => some (true, .bool (M.valid num den adj pos frac))
  | _ => none
noncomputable def c11 : Cfg := c10.add 17 m17
theorem c11_ok : CfgOK c11 := add_ok c10_ok fun xs v h => by
  unfold m17 at h; split at h
  · cases h; exact pure_of_callB c10_ok noCall_ok (e17 _ _ _ _ _) rfl
  · cases h
theorem e18 (num den adj pos frac : Int) : callB c11 noCall 0 18 [.agg [.int .i64 num, .int .i64 den, .int .i64 adj, .int .i64 pos, .int .i64 frac]] [] 0 = some (.bool (M.valid num den adj pos frac), [], 0) := by
  refine (show callB c11 noCall 0 18 [.agg [.int .i64 num, .int .i64 den, .int .i64 adj, .int .i64 pos, .int .i64 frac]] [] 0 = (bif M.ratioValid num den then (bif decide (num ≤ 768000) then (bif decide (den ≤ 768000) then (bif decide (adj ≥ -4096) then (bif decide (adj ≤ 4096) then (bif decide (pos ≥ 0) then (bif decide (pos ≤ 1125899906842624) then (bif decide (frac ≥ 0) then some (AV.bool (decide (frac < M.parts den)), [], 0) else some (AV.bool false, [], 0)) else some (AV.bool false, [], 0)) else some (AV.bool false, [], 0)) else some (AV.bool false, [], 0)) else some (AV.bool false, [], 0)) else some (AV.bool false, [], 0)) else some (AV.bool false, [], 0)) else some (AV.bool false, [], 0)) by kernel_rfl).trans ?_
  unfold M.valid M.tuned
  repeat' (refine condCases (fun h => ?_) (fun h => ?_))
  all_goals (first | rfl | (simp only [*, Bool.false_and, Bool.and_false, Bool.true_and, Bool.and_true]; done) | (simp only [*, Bool.false_and, Bool.and_false, Bool.true_and, Bool.and_true]; rfl))
def m18 : List AV → Option (Bool × AV)
  | [.agg [.int .i64 num, .int .i64 den, .int .i64 adj, .int .i64 pos, .int .i64 frac]] => some (true, .bool (M.valid num den adj pos frac))
  | _ => none
noncomputable def c12 : Cfg := c11.add 18 m18
theorem c12_ok : CfgOK c12 := add_ok c11_ok fun xs v h => by
  unfold m18 at h; split at h
  · cases h; exact pure_of_callB c11_ok noCall_ok (e18 _ _ _ _ _) rfl
  · cases h
end Go.Proofs.Ytcpidomblalmpaa
