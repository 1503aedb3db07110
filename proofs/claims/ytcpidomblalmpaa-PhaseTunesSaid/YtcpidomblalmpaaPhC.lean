/- The models of the phase's functions: what a position, an advance, a retuning and a new phase come to. -/
import Derived.Test.YtcpidomblalmpaaPhB
import Derived.IntWalk
namespace Go.Proofs.Ytcpidomblalmpaa
open Am
set_option maxRecDepth 100000
set_option linter.unusedVariables false
set_option linter.unusedSimpArgs false
namespace M
def chk (num den adj pos frac n : Int) : Int := bif !valid num den adj pos frac then 1 else bif !decide (n < 0) then (bif decide (n > 65536) then 2 else 0) else 2
def atP (num den adj pos frac n : Int) : Int := bif chk num den adj pos frac n != 0 then 0 else w64 (pos + w64 ((ahead num adj frac n).tdiv (parts den)))
def atF (num den adj pos frac n : Int) : Int := bif chk num den adj pos frac n != 0 then 0 else (ahead num adj frac n).tmod (parts den)
def rAhead (num adj frac n : Int) : Int := w64 (frac + w64 (n * step num adj))
def rAtP (num den adj pos frac n : Int) : Int := bif chk num den adj pos frac n != 0 then 0 else w64 (pos + w64 ((rAhead num adj frac n).tdiv (parts den)))
def rAtF (num den adj pos frac n : Int) : Int := bif chk num den adj pos frac n != 0 then 0 else (rAhead num adj frac n).tmod (parts den)
def mkE (a b : Int) : Int := bif decide (a < 1) || decide (b < 1) then 1 else bif decide (w64 (a.tdiv (gcdT a b)) > 68719476736) || decide (w64 (b.tdiv (gcdT a b)) > 68719476736) then 2 else 0
def mkN (a b : Int) : Int := bif mkE a b != 0 then 0 else w64 (a.tdiv (gcdT a b))
def mkD (a b : Int) : Int := bif mkE a b != 0 then 0 else w64 (b.tdiv (gcdT a b))
def rtE (num den adj pos frac n : Int) : Int := bif !valid num den adj pos frac then 1 else bif decide (n < -4096) || decide (n > 4096) then 2 else 0
def nwE (num den : Int) : Int := bif !valid num den 0 0 0 then 1 else 0
def rAdE (num den adj pos frac n : Int) : Int := bif chk num den adj pos frac n != 0 then chk num den adj pos frac n else bif decide (rAtP num den adj pos frac n > 1125899906842624) then 2 else 0
def adE (num den adj pos frac n : Int) : Int := bif chk num den adj pos frac n != 0 then chk num den adj pos frac n else bif decide (atP num den adj pos frac n > 1125899906842624) then 2 else 0
/-- a value unless there is an error -/
def un (e x : Int) : Int := bif e != 0 then 0 else x
end M

theorem gcdT_zero (a b : Int) : M.gcdT a b = 0 → a = 0 ∧ b = 0 := by
  induction a, b using M.gcdT.induct with
  | case1 a => intro h; rw [M.gcdT] at h; simpa using h
  | case2 a b hb ih =>
    intro h
    rw [M.gcdT, dif_neg hb] at h
    exact absurd (ih h).1 hb
theorem w64_in {n : Int} (h1 : -9223372036854775808 ≤ n) (h2 : n ≤ 9223372036854775807) : M.w64 n = n := by
  unfold M.w64
  rw [IntWalk.i64_left]
  exact IntWalk.wrap64_in n ⟨h1, h2⟩
theorem parts_ne {den : Int} (h1 : 1 ≤ den) (h2 : den ≤ 68719476736) : M.parts den ≠ 0 := by
  have : M.parts den = den * 65536 := by
    unfold M.parts
    exact w64_in (by omega) (by omega)
  omega
theorem valid_den {num den adj pos frac : Int} (h : M.valid num den adj pos frac = true) : (M.parts den != 0) = true := by
  simp only [M.valid, M.ratioValid, Bool.and_eq_true, decide_eq_true_eq] at h
  have := parts_ne (den := den) (by omega) (by omega)
  simpa using this

theorem e27 (num den adj pos frac n : Int) : callB c12 noCall 0 27 [.agg [.int .i64 num, .int .i64 den, .int .i64 adj, .int .i64 pos, .int .i64 frac], .int .i64 n] [] 0 = some (.int .i64 (M.chk num den adj pos frac n), [], 0) := by
  refine (show callB c12 noCall 0 27 [.agg [.int .i64 num, .int .i64 den, .int .i64 adj, .int .i64 pos, .int .i64 frac], .int .i64 n] [] 0 = (bif !M.valid num den adj pos frac then some (AV.int IntKind.i64 1, [], 0) else bif !decide (n < 0) then bif decide (n > 65536) then some (AV.int IntKind.i64 2, [], 0) else some (AV.int IntKind.i64 0, [], 0) else some (AV.int IntKind.i64 2, [], 0)) by kernel_rfl).trans ?_
  unfold M.chk
  repeat' (refine condCases (fun h => ?_) (fun h => ?_))
  all_goals (first | rfl | (simp only [*, Bool.false_and, Bool.and_false, Bool.true_and, Bool.and_true, Bool.true_or, Bool.or_true, Bool.false_or, cond_true, cond_false]; done) | (simp_all; done))
def m27 : List AV → Option (Bool × AV)
  | [.agg [.int .i64 num, .int .i64 den, .int .i64 adj, .int .i64 pos, .int .i64 frac], .int .i64 n] => some (true, .int .i64 (M.chk num den adj pos frac n))
  | _ => none
noncomputable def c13 : Cfg := c12.add 27 m27
theorem c13_ok : CfgOK c13 := add_ok c12_ok fun xs v h => by
  unfold m27 at h; split at h
  · cases h; exact pure_of_callB c12_ok noCall_ok (e27 _ _ _ _ _ _) rfl
  · cases h
theorem e12 (num den adj pos frac n : Int) : callB c13 noCall 0 12 [.agg [.int .i64 num, .int .i64 den, .int .i64 adj, .int .i64 pos, .int .i64 frac], .int .i64 n] [] 0 = some (.tuple [.int .i64 (M.atP num den adj pos frac n), .int .i64 (M.atF num den adj pos frac n), .int .i64 (M.chk num den adj pos frac n)], [], 0) := by
  refine (show callB c13 noCall 0 12 [.agg [.int .i64 num, .int .i64 den, .int .i64 adj, .int .i64 pos, .int .i64 frac], .int .i64 n] [] 0 = (bif M.chk num den adj pos frac n != 0 then some (.tuple [.int .i64 0, .int .i64 0, .int .i64 (M.chk num den adj pos frac n)], [], 0) else bif M.parts den != 0 && true then bif M.parts den != 0 && true then some (.tuple [.int .i64 (IntKind.i64.wrap (pos + IntKind.i64.wrap ((M.ahead num adj frac n).tdiv (M.parts den)))), .int .i64 ((M.ahead num adj frac n).tmod (M.parts den)), .int .i64 0], [], 0) else none else none) by kernel_rfl).trans ?_
  unfold M.atP M.atF
  refine condCases (fun h => ?_) (fun h => ?_)
  · simp only [h, cond_true]
  · have hv : M.valid num den adj pos frac = true := by
      unfold M.chk at h
      cases hv : M.valid num den adj pos frac with
      | true => rfl
      | false => simp [hv] at h
    simp only [valid_den hv, h, Bool.and_true, cond_true, cond_false]
    simp at h
    rw [h]; rfl
def m12 : List AV → Option (Bool × AV)
  | [.agg [.int .i64 num, .int .i64 den, .int .i64 adj, .int .i64 pos, .int .i64 frac], .int .i64 n] => some (true, .tuple [.int .i64 (M.atP num den adj pos frac n), .int .i64 (M.atF num den adj pos frac n), .int .i64 (M.chk num den adj pos frac n)])
  | _ => none
noncomputable def c14 : Cfg := c13.add 12 m12
theorem c14_ok : CfgOK c14 := add_ok c13_ok fun xs v h => by
  unfold m12 at h; split at h
  · cases h; exact pure_of_callB c13_ok noCall_ok (e12 _ _ _ _ _ _) rfl
  · cases h
theorem e13 (num den adj pos frac n : Int) : callB c14 noCall 0 13 [.agg [.int .i64 num, .int .i64 den, .int .i64 adj, .int .i64 pos, .int .i64 frac], .int .i64 n] [] 0 = some (.tuple [.int .i64 (M.rAtP num den adj pos frac n), .int .i64 (M.rAtF num den adj pos frac n), .int .i64 (M.chk num den adj pos frac n)], [], 0) := by
  refine (show callB c14 noCall 0 13 [.agg [.int .i64 num, .int .i64 den, .int .i64 adj, .int .i64 pos, .int .i64 frac], .int .i64 n] [] 0 = (bif !M.valid num den adj pos frac then some (.tuple [.int .i64 0, .int .i64 0, .int .i64 1], [], 0) else bif !decide (n < 0) then bif decide (n > 65536) then some (.tuple [.int .i64 0, .int .i64 0, .int .i64 2], [], 0) else bif M.parts den != 0 && true then bif M.parts den != 0 && true then some (.tuple [.int .i64 (IntKind.i64.wrap (pos + IntKind.i64.wrap ((IntKind.i64.wrap (frac + IntKind.i64.wrap (n * M.step num adj))).tdiv (M.parts den)))), .int .i64 ((IntKind.i64.wrap (frac + IntKind.i64.wrap (n * M.step num adj))).tmod (M.parts den)), .int .i64 0], [], 0) else none else none else some (.tuple [.int .i64 0, .int .i64 0, .int .i64 2], [], 0)) by kernel_rfl).trans ?_
  unfold M.rAtP M.rAtF M.chk
  refine condCases (fun h => ?_) (fun h => ?_)
  · simp only [h, cond_true]; rfl
  · have hv : M.valid num den adj pos frac = true := by simpa using h
    simp only [valid_den hv, hv, Bool.and_true, cond_true, cond_false, Bool.not_true]
    refine condCases (fun h2 => ?_) (fun h2 => ?_)
    · refine condCases (fun h3 => ?_) (fun h3 => ?_)
      · simp only [h2, h3, cond_true]; rfl
      · simp only [h2, h3, cond_true, cond_false]; rfl
    · simp only [h2, cond_false]; rfl
def m13 : List AV → Option (Bool × AV)
  | [.agg [.int .i64 num, .int .i64 den, .int .i64 adj, .int .i64 pos, .int .i64 frac], .int .i64 n] => some (true, .tuple [.int .i64 (M.rAtP num den adj pos frac n), .int .i64 (M.rAtF num den adj pos frac n), .int .i64 (M.chk num den adj pos frac n)])
  | _ => none
noncomputable def c15 : Cfg := c14.add 13 m13
theorem c15_ok : CfgOK c15 := add_ok c14_ok fun xs v h => by
  unfold m13 at h; split at h
  · cases h; exact pure_of_callB c14_ok noCall_ok (e13 _ _ _ _ _ _) rfl
  · cases h
theorem e14 (num den adj pos frac n : Int) : callB c15 noCall 0 14 [.agg [.int .i64 num, .int .i64 den, .int .i64 adj, .int .i64 pos, .int .i64 frac], .int .i64 n] [] 0 = some (.tuple [.agg [.int .i64 (M.un (M.rAdE num den adj pos frac n) (num)), .int .i64 (M.un (M.rAdE num den adj pos frac n) (den)), .int .i64 (M.un (M.rAdE num den adj pos frac n) (adj)), .int .i64 (M.un (M.rAdE num den adj pos frac n) (M.rAtP num den adj pos frac n)), .int .i64 (M.un (M.rAdE num den adj pos frac n) (M.rAtF num den adj pos frac n))], .int .i64 (M.rAdE num den adj pos frac n)], [], 0) := by
  refine (show callB c15 noCall 0 14 [.agg [.int .i64 num, .int .i64 den, .int .i64 adj, .int .i64 pos, .int .i64 frac], .int .i64 n] [] 0 = (bif M.chk num den adj pos frac n != 0 then some (.tuple [.agg [.int .i64 0, .int .i64 0, .int .i64 0, .int .i64 0, .int .i64 0], .int .i64 (M.chk num den adj pos frac n)], [], 0) else bif decide (M.rAtP num den adj pos frac n > 1125899906842624) then some (.tuple [.agg [.int .i64 0, .int .i64 0, .int .i64 0, .int .i64 0, .int .i64 0], .int .i64 2], [], 0) else  some (.tuple [.agg [.int .i64 num, .int .i64 den, .int .i64 adj, .int .i64 (M.rAtP num den adj pos frac n), .int .i64 (M.rAtF num den adj pos frac n)], .int .i64 0], [], 0)) by kernel_rfl).trans ?_
  repeat' (refine condCases (fun h => ?_) (fun h => ?_))
  all_goals (try simp only [bne, Bool.not_eq_true', Bool.not_eq_false'] at *)
  all_goals (first | (simp only [M.rAdE, M.un, *, bne, Bool.not_true, Bool.not_false, Bool.true_or, Bool.or_true, Bool.false_or, Bool.or_false, cond_true, cond_false]; done) | (simp only [M.rAdE, M.un, *, bne, Bool.not_true, Bool.not_false, Bool.true_or, Bool.or_true, Bool.false_or, Bool.or_false, cond_true, cond_false]; rfl) | (simp_all; done))
def m14 : List AV → Option (Bool × AV)
  | [.agg [.int .i64 num, .int .i64 den, .int .i64 adj, .int .i64 pos, .int .i64 frac], .int .i64 n] => some (true, .tuple [.agg [.int .i64 (M.un (M.rAdE num den adj pos frac n) (num)), .int .i64 (M.un (M.rAdE num den adj pos frac n) (den)), .int .i64 (M.un (M.rAdE num den adj pos frac n) (adj)), .int .i64 (M.un (M.rAdE num den adj pos frac n) (M.rAtP num den adj pos frac n)), .int .i64 (M.un (M.rAdE num den adj pos frac n) (M.rAtF num den adj pos frac n))], .int .i64 (M.rAdE num den adj pos frac n)])
  | _ => none
noncomputable def c16 : Cfg := c15.add 14 m14
theorem c16_ok : CfgOK c16 := add_ok c15_ok fun xs v h => by
  unfold m14 at h; split at h
  · cases h; exact pure_of_callB c15_ok noCall_ok (e14 _ _ _ _ _ _) rfl
  · cases h
theorem e11 (num den adj pos frac n : Int) : callB c16 noCall 0 11 [.agg [.int .i64 num, .int .i64 den, .int .i64 adj, .int .i64 pos, .int .i64 frac], .int .i64 n] [] 0 = some (.tuple [.agg [.int .i64 (M.un (M.adE num den adj pos frac n) (num)), .int .i64 (M.un (M.adE num den adj pos frac n) (den)), .int .i64 (M.un (M.adE num den adj pos frac n) (adj)), .int .i64 (M.un (M.adE num den adj pos frac n) (M.atP num den adj pos frac n)), .int .i64 (M.un (M.adE num den adj pos frac n) (M.atF num den adj pos frac n))], .int .i64 (M.adE num den adj pos frac n)], [], 0) := by
  refine (show callB c16 noCall 0 11 [.agg [.int .i64 num, .int .i64 den, .int .i64 adj, .int .i64 pos, .int .i64 frac], .int .i64 n] [] 0 = (bif M.chk num den adj pos frac n == 0 then bif decide (M.atP num den adj pos frac n > 1125899906842624) then some (.tuple [.agg [.int .i64 0, .int .i64 0, .int .i64 0, .int .i64 0, .int .i64 0], .int .i64 2], [], 0) else  bif M.chk num den adj pos frac n != 0 then some (.tuple [.agg [.int .i64 0, .int .i64 0, .int .i64 0, .int .i64 0, .int .i64 0], .int .i64 (M.chk num den adj pos frac n)], [], 0) else some (.tuple [.agg [.int .i64 num, .int .i64 den, .int .i64 adj, .int .i64 (M.atP num den adj pos frac n), .int .i64 (M.atF num den adj pos frac n)], .int .i64 0], [], 0) else bif M.chk num den adj pos frac n != 0 then some (.tuple [.agg [.int .i64 0, .int .i64 0, .int .i64 0, .int .i64 0, .int .i64 0], .int .i64 (M.chk num den adj pos frac n)], [], 0) else some (.tuple [.agg [.int .i64 num, .int .i64 den, .int .i64 adj, .int .i64 (M.atP num den adj pos frac n), .int .i64 (M.atF num den adj pos frac n)], .int .i64 0], [], 0)) by kernel_rfl).trans ?_
  repeat' (refine condCases (fun h => ?_) (fun h => ?_))
  all_goals (try simp only [bne, Bool.not_eq_true', Bool.not_eq_false'] at *)
  all_goals (first | (simp only [M.adE, M.un, *, bne, Bool.not_true, Bool.not_false, Bool.true_or, Bool.or_true, Bool.false_or, Bool.or_false, cond_true, cond_false]; done) | (simp only [M.adE, M.un, *, bne, Bool.not_true, Bool.not_false, Bool.true_or, Bool.or_true, Bool.false_or, Bool.or_false, cond_true, cond_false]; rfl) | (simp_all; done))
def m11 : List AV → Option (Bool × AV)
  | [.agg [.int .i64 num, .int .i64 den, .int .i64 adj, .int .i64 pos, .int .i64 frac], .int .i64 n] => some (true, .tuple [.agg [.int .i64 (M.un (M.adE num den adj pos frac n) (num)), .int .i64 (M.un (M.adE num den adj pos frac n) (den)), .int .i64 (M.un (M.adE num den adj pos frac n) (adj)), .int .i64 (M.un (M.adE num den adj pos frac n) (M.atP num den adj pos frac n)), .int .i64 (M.un (M.adE num den adj pos frac n) (M.atF num den adj pos frac n))], .int .i64 (M.adE num den adj pos frac n)])
  | _ => none
noncomputable def c17 : Cfg := c16.add 11 m11
theorem c17_ok : CfgOK c17 := add_ok c16_ok fun xs v h => by
  unfold m11 at h; split at h
  · cases h; exact pure_of_callB c16_ok noCall_ok (e11 _ _ _ _ _ _) rfl
  · cases h
theorem e16 (num den adj pos frac n : Int) : callB c17 noCall 0 16 [.agg [.int .i64 num, .int .i64 den, .int .i64 adj, .int .i64 pos, .int .i64 frac], .int .i64 n] [] 0 = some (.tuple [.agg [.int .i64 (M.un (M.rtE num den adj pos frac n) (num)), .int .i64 (M.un (M.rtE num den adj pos frac n) (den)), .int .i64 (M.un (M.rtE num den adj pos frac n) (n)), .int .i64 (M.un (M.rtE num den adj pos frac n) (pos)), .int .i64 (M.un (M.rtE num den adj pos frac n) (frac))], .int .i64 (M.rtE num den adj pos frac n)], [], 0) := by
  refine (show callB c17 noCall 0 16 [.agg [.int .i64 num, .int .i64 den, .int .i64 adj, .int .i64 pos, .int .i64 frac], .int .i64 n] [] 0 = (bif !M.valid num den adj pos frac then some (.tuple [.agg [.int .i64 0, .int .i64 0, .int .i64 0, .int .i64 0, .int .i64 0], .int .i64 1], [], 0) else bif !decide (n < -4096) then (bif decide (n > 4096) then some (.tuple [.agg [.int .i64 0, .int .i64 0, .int .i64 0, .int .i64 0, .int .i64 0], .int .i64 2], [], 0) else some (.tuple [.agg [.int .i64 num, .int .i64 den, .int .i64 n, .int .i64 pos, .int .i64 frac], .int .i64 0], [], 0)) else some (.tuple [.agg [.int .i64 0, .int .i64 0, .int .i64 0, .int .i64 0, .int .i64 0], .int .i64 2], [], 0)) by kernel_rfl).trans ?_
  repeat' (refine condCases (fun h => ?_) (fun h => ?_))
  all_goals (try simp only [bne, Bool.not_eq_true', Bool.not_eq_false'] at *)
  all_goals (first | (simp only [M.rtE, M.un, *, bne, Bool.not_true, Bool.not_false, Bool.true_or, Bool.or_true, Bool.false_or, Bool.or_false, cond_true, cond_false]; done) | (simp only [M.rtE, M.un, *, bne, Bool.not_true, Bool.not_false, Bool.true_or, Bool.or_true, Bool.false_or, Bool.or_false, cond_true, cond_false]; rfl) | (simp_all; done))
def m16 : List AV → Option (Bool × AV)
  | [.agg [.int .i64 num, .int .i64 den, .int .i64 adj, .int .i64 pos, .int .i64 frac], .int .i64 n] => some (true, .tuple [.agg [.int .i64 (M.un (M.rtE num den adj pos frac n) (num)), .int .i64 (M.un (M.rtE num den adj pos frac n) (den)), .int .i64 (M.un (M.rtE num den adj pos frac n) (n)), .int .i64 (M.un (M.rtE num den adj pos frac n) (pos)), .int .i64 (M.un (M.rtE num den adj pos frac n) (frac))], .int .i64 (M.rtE num den adj pos frac n)])
  | _ => none
noncomputable def c18 : Cfg := c17.add 16 m16
theorem c18_ok : CfgOK c18 := add_ok c17_ok fun xs v h => by
  unfold m16 at h; split at h
  · cases h; exact pure_of_callB c17_ok noCall_ok (e16 _ _ _ _ _ _) rfl
  · cases h
theorem e20 (num den : Int) : callB c18 noCall 0 20 [.agg [.int .i64 num, .int .i64 den]] [] 0 = some (.tuple [.agg [.int .i64 (M.un (M.nwE num den) (num)), .int .i64 (M.un (M.nwE num den) (den)), .int .i64 0, .int .i64 0, .int .i64 0], .int .i64 (M.nwE num den)], [], 0) := by
  refine (show callB c18 noCall 0 20 [.agg [.int .i64 num, .int .i64 den]] [] 0 = (bif !M.valid num den 0 0 0 then some (.tuple [.agg [.int .i64 0, .int .i64 0, .int .i64 0, .int .i64 0, .int .i64 0], .int .i64 1], [], 0) else some (.tuple [.agg [.int .i64 num, .int .i64 den, .int .i64 0, .int .i64 0, .int .i64 0], .int .i64 0], [], 0)) by kernel_rfl).trans ?_
  repeat' (refine condCases (fun h => ?_) (fun h => ?_))
  all_goals (try simp only [bne, Bool.not_eq_true', Bool.not_eq_false'] at *)
  all_goals (first | (simp only [M.nwE, M.un, *, bne, Bool.not_true, Bool.not_false, Bool.true_or, Bool.or_true, Bool.false_or, Bool.or_false, cond_true, cond_false]; done) | (simp only [M.nwE, M.un, *, bne, Bool.not_true, Bool.not_false, Bool.true_or, Bool.or_true, Bool.false_or, Bool.or_false, cond_true, cond_false]; rfl) | (simp_all; done))
def m20 : List AV → Option (Bool × AV)
  | [.agg [.int .i64 num, .int .i64 den]] => some (true, .tuple [.agg [.int .i64 (M.un (M.nwE num den) (num)), .int .i64 (M.un (M.nwE num den) (den)), .int .i64 0, .int .i64 0, .int .i64 0], .int .i64 (M.nwE num den)])
  | _ => none
noncomputable def c19 : Cfg := c18.add 20 m20
theorem c19_ok : CfgOK c19 := add_ok c18_ok fun xs v h => by
  unfold m20 at h; split at h
  · cases h; exact pure_of_callB c18_ok noCall_ok (e20 _ _) rfl
  · cases h
theorem e19 (num den : Int) : callB c19 noCall 0 19 [.agg [.int .i64 num, .int .i64 den]] [] 0 = some (.tuple [.agg [.int .i64 (M.un (M.nwE num den) (num)), .int .i64 (M.un (M.nwE num den) (den)), .int .i64 0, .int .i64 0, .int .i64 0], .int .i64 (M.nwE num den)], [], 0) := by
  refine (show callB c19 noCall 0 19 [.agg [.int .i64 num, .int .i64 den]] [] 0 = (bif !M.valid num den 0 0 0 then some (.tuple [.agg [.int .i64 0, .int .i64 0, .int .i64 0, .int .i64 0, .int .i64 0], .int .i64 1], [], 0) else some (.tuple [.agg [.int .i64 num, .int .i64 den, .int .i64 0, .int .i64 0, .int .i64 0], .int .i64 0], [], 0)) by kernel_rfl).trans ?_
  repeat' (refine condCases (fun h => ?_) (fun h => ?_))
  all_goals (try simp only [bne, Bool.not_eq_true', Bool.not_eq_false'] at *)
  all_goals (first | (simp only [M.nwE, M.un, *, bne, Bool.not_true, Bool.not_false, Bool.true_or, Bool.or_true, Bool.false_or, Bool.or_false, cond_true, cond_false]; done) | (simp only [M.nwE, M.un, *, bne, Bool.not_true, Bool.not_false, Bool.true_or, Bool.or_true, Bool.false_or, Bool.or_false, cond_true, cond_false]; rfl) | (simp_all; done))
def m19 : List AV → Option (Bool × AV)
  | [.agg [.int .i64 num, .int .i64 den]] => some (true, .tuple [.agg [.int .i64 (M.un (M.nwE num den) (num)), .int .i64 (M.un (M.nwE num den) (den)), .int .i64 0, .int .i64 0, .int .i64 0], .int .i64 (M.nwE num den)])
  | _ => none
noncomputable def c20 : Cfg := c19.add 19 m19
theorem c20_ok : CfgOK c20 := add_ok c19_ok fun xs v h => by
  unfold m19 at h; split at h
  · cases h; exact pure_of_callB c19_ok noCall_ok (e19 _ _) rfl
  · cases h
theorem e42 (num den : Int) : callB c20 noCall 0 42 [.int .i64 num, .int .i64 den] [] 0 = some (.tuple [.agg [.int .i64 (M.mkN num den), .int .i64 (M.mkD num den)], .int .i64 (M.mkE num den)], [], 0) := by
  refine (show callB c20 noCall 0 42 [.int .i64 num, .int .i64 den] [] 0 = (bif !decide (num < 1) then (bif decide (den < 1) then some (.tuple [.agg [.int .i64 0, .int .i64 0], .int .i64 1], [], 0) else bif M.gcdT num den != 0 && true then bif M.gcdT num den != 0 && true then bif !decide (IntKind.i64.wrap (num.tdiv (M.gcdT num den)) > 68719476736) then (bif decide (IntKind.i64.wrap (den.tdiv (M.gcdT num den)) > 68719476736) then some (.tuple [.agg [.int .i64 0, .int .i64 0], .int .i64 2], [], 0) else some (.tuple [.agg [.int .i64 (IntKind.i64.wrap (num.tdiv (M.gcdT num den))), .int .i64 (IntKind.i64.wrap (den.tdiv (M.gcdT num den)))], .int .i64 0], [], 0)) else some (.tuple [.agg [.int .i64 0, .int .i64 0], .int .i64 2], [], 0) else none else none) else some (.tuple [.agg [.int .i64 0, .int .i64 0], .int .i64 1], [], 0)) by kernel_rfl).trans ?_
  have hg : decide (num < 1) = false → (M.gcdT num den != 0) = true := fun h => by
    have h2 : M.gcdT num den ≠ 0 := fun h0 => by
      have := (gcdT_zero num den h0).1
      simp at h; omega
    simpa using h2
  unfold M.mkN M.mkD M.mkE M.w64
  refine condCases (fun h => ?_) (fun h => ?_)
  · have h1 : decide (num < 1) = false := by simpa using h
    have h2 := hg h1
    simp only [h2, Bool.and_true, cond_true, h1, Bool.false_or]
    refine condCases (fun h3 => ?_) (fun h3 => ?_)
    · simp only [h3, cond_true]; rfl
    · simp only [h3, cond_false]
      refine condCases (fun h4 => ?_) (fun h4 => ?_)
      · have h4' := (Bool.not_eq_true' _ ▸ h4 : _ = false)
        refine condCases (fun h5 => ?_) (fun h5 => ?_)
        · simp only [h4', h5, Bool.or_true, cond_true]; rfl
        · simp only [h4', h5, Bool.or_false, cond_false]; rfl
      · have h4' := (Bool.not_eq_false' _ ▸ h4 : _ = true)
        simp only [h4', Bool.true_or, cond_true]; rfl
  · have h1 : decide (num < 1) = true := by simpa using h
    simp only [h1, Bool.true_or, cond_true]; rfl
def m42 : List AV → Option (Bool × AV)
  | [.int .i64 num, .int .i64 den] => some (true, .tuple [.agg [.int .i64 (M.mkN num den), .int .i64 (M.mkD num den)], .int .i64 (M.mkE num den)])
  | _ => none
noncomputable def c21 : Cfg := c20.add 42 m42
theorem c21_ok : CfgOK c21 := add_ok c20_ok fun xs v h => by
  unfold m42 at h; split at h
  · cases h; exact pure_of_callB c20_ok noCall_ok (e42 _ _) rfl
  · cases h
end Go.Proofs.Ytcpidomblalmpaa
