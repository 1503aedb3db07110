/- Several texts in one: PqA PqC PqG PqI PqJ PqK PqP. -/
import Derived.Test.YtooiechjanmdjaaKt
import Derived.IntWalk
/- The models of phases and ratios (by names): Euclid's loop, validity, the way ahead. -/
namespace Go.Proofs.Ytooiechjanmdjaa
namespace Ph
open Am
open Go.Proofs.Ytooiechjanmdjaa.M (w64)
set_option maxRecDepth 100000
set_option linter.unusedVariables false
set_option linter.unusedSimpArgs false
namespace M
/-- Euclid's loop -/
def gcdT (a b : Int) : Int := if h : b = 0 then a else gcdT b (a.tmod b)
termination_by b.natAbs
decreasing_by
  simp only [Int.natAbs_tmod]
  exact Nat.mod_lt _ (Int.natAbs_pos.2 h)
def parts (den : Int) : Int := w64 (den * 65536)
def step (num adj : Int) : Int := w64 (num * w64 (65536 + adj))
def ahead (num adj frac n : Int) : Int := w64 (frac + w64 (w64 (n * num) * w64 (65536 + adj)))
def tuned (adj : Int) : Bool := decide (adj ≥ -4096) && decide (adj ≤ 4096)
def ratioValid (num den : Int) : Bool := decide (num ≥ 1) && decide (den ≥ 1) && decide (num ≤ 68719476736) && decide (den ≤ 68719476736) && (gcdT num den == 1)
def valid (num den adj pos frac : Int) : Bool := ratioValid num den && decide (num ≤ 768000) && decide (den ≤ 768000) && tuned adj && decide (pos ≥ 0) && decide (pos ≤ 1125899906842624) && decide (frac ≥ 0) && decide (frac < parts den)
end M
noncomputable def b1 : Cfg := g7.keepTo 56 0 [0, 1]
theorem b1_ok : CfgOK b1 := keepTo_ok g7_ok _ _ _
noncomputable def b2 : Cfg := b1.keepTo 61 0 [0, 1]
theorem b2_ok : CfgOK b2 := keepTo_ok b1_ok _ _ _
noncomputable def b3 : Cfg := b2.keepTo 97 0 [1, 5, 6]
theorem b3_ok : CfgOK b3 := keepTo_ok b2_ok _ _ _
noncomputable def c0 : Cfg := b3

theorem c0_ok : CfgOK c0 := b3_ok

/-- the state at the head of Euclid's loop -/
def eSt (a b : Int) (lo : Nat) : St := ⟨[(0, .int .i64 a), (1, .int .i64 b)], [], lo⟩

theorem gcd_step (f : Nat) (hf : f = 56 ∨ f = 61) {R : Type} (a b : Int) (K : Kont R) : execK c0 f 0 (ntAt Try.prog f) noCall 0 none (bodyAt Try.prog f 0) (eSt a b 0) (kRes 0 (some [0, 1]) K) =
    (bif b != 0 then (bif b != 0 && true then K .normal (eSt b (a.tmod b) 0) else none) else K (.exit 0) (eSt a b 0)) := by
  rcases hf with rfl | rfl <;> kernel_rfl

theorem gcd_loop (f : Nat) (hf : f = 56 ∨ f = 61) {R : Type} (K : Kont R) : ∀ (a b : Int),
    ∃ n, loopK 0 (some [0, 1]) (execK c0 f 0 (ntAt Try.prog f) noCall 0 none (bodyAt Try.prog f 0)) n (eSt a b 0) K = K (.exit 0) (eSt (M.gcdT a b) 0 0) := by
  intro a b
  induction a, b using M.gcdT.induct with
  | case1 a =>
    refine ⟨1, ?_⟩
    rw [loopK_step, gcd_step f hf, M.gcdT]
    rfl
  | case2 a b hb ih =>
    obtain ⟨n, hn⟩ := ih
    refine ⟨n + 1, ?_⟩
    rw [loopK_step, gcd_step f hf, M.gcdT, dif_neg hb]
    have h0 : (b != 0) = true := by simpa using hb
    rw [h0]
    exact hn

def eL : Nat → St → Option (Bool × Ex × St)
  | 0, ⟨[(0, .int .i64 a), (1, .int .i64 b)], [], 0⟩ => some (true, .exit 0, eSt (M.gcdT a b) 0 0)
  | _, _ => none

noncomputable def c1 : Cfg := (c0.addL 56 0 eL).addL 61 0 eL

theorem eL_ok (f : Nat) (hf : f = 56 ∨ f = 61) (lo : Nat) (st : St) (ex : Ex) (st' : St) (h : eL lo st = some (true, ex, st')) : ∃ (C' : Cfg) (call : CallF) (m n : Nat) (kp : Option (List Nat)), CfgOK C' ∧ CallOK C'.P call ∧ C'.P = c0.P ∧
      loopK lo kp (execK C' f lo (ntAt c0.P f) call m none (bodyAt c0.P f 0)) n st (fun ex st => some (ex, st)) = some (ex, st') := by
  unfold eL at h
  split at h
  · rename_i a b
    simp only [Option.some.injEq, Prod.mk.injEq, true_and] at h
    obtain ⟨rfl, rfl⟩ := h
    obtain ⟨n, hn⟩ := gcd_loop f hf (fun ex st => some (ex, st)) a b
    exact ⟨c0, noCall, 0, n, some [0, 1], c0_ok, noCall_ok, rfl, hn⟩
  · cases h

theorem c1_ok : CfgOK c1 :=
  addL_ok (addL_ok c0_ok (by kernel_rfl) (eL_ok 56 (.inl rfl))) (by kernel_rfl) (eL_ok 61 (.inr rfl))
theorem e40 (a b : Int) : callB c1 noCall 0 56 [.int .i64 a, .int .i64 b] [] 0 = some (.int .i64 (M.gcdT a b), [], 0) := by
  kernel_rfl
def m40 : List AV → Option (Bool × AV)
  | [.int .i64 a, .int .i64 b] => some (true, .int .i64 (M.gcdT a b))
  | _ => none
noncomputable def c2 : Cfg := c1.add 56 m40
theorem c2_ok : CfgOK c2 := add_ok c1_ok fun xs v h => by
  unfold m40 at h; split at h
  · cases h; exact pure_of_callB c1_ok noCall_ok (e40 _ _) rfl
  · cases h
theorem e41 (a b : Int) : callB c2 noCall 0 61 [.int .i64 a, .int .i64 b] [] 0 = some (.int .i64 (M.gcdT a b), [], 0) := by
  kernel_rfl
def m41 : List AV → Option (Bool × AV)
  | [.int .i64 a, .int .i64 b] => some (true, .int .i64 (M.gcdT a b))
  | _ => none
noncomputable def c3 : Cfg := c2.add 61 m41
theorem c3_ok : CfgOK c3 := add_ok c2_ok fun xs v h => by
  unfold m41 at h; split at h
  · cases h; exact pure_of_callB c2_ok noCall_ok (e41 _ _) rfl
  · cases h
theorem e29 (num den adj pos frac : Int) : callB c3 noCall 0 82 [.agg [.int .i64 num, .int .i64 den, .int .i64 adj, .int .i64 pos, .int .i64 frac]] [] 0 = some (.int .i64 (M.parts den), [], 0) := by
  kernel_rfl
def m29 : List AV → Option (Bool × AV)
  | [.agg [.int .i64 num, .int .i64 den, .int .i64 adj, .int .i64 pos, .int .i64 frac]] => some (true, .int .i64 (M.parts den))
  | _ => none
noncomputable def c4 : Cfg := c3.add 82 m29
theorem c4_ok : CfgOK c4 := add_ok c3_ok fun xs v h => by
  unfold m29 at h; split at h
  · cases h; exact pure_of_callB c3_ok noCall_ok (e29 _ _ _ _ _) rfl
  · cases h
theorem e31 (num den adj pos frac : Int) : callB c4 noCall 0 84 [.agg [.int .i64 num, .int .i64 den, .int .i64 adj, .int .i64 pos, .int .i64 frac]] [] 0 = some (.int .i64 (M.parts den), [], 0) := by
  kernel_rfl
def m31 : List AV → Option (Bool × AV)
  | [.agg [.int .i64 num, .int .i64 den, .int .i64 adj, .int .i64 pos, .int .i64 frac]] => some (true, .int .i64 (M.parts den))
  | _ => none
noncomputable def c5 : Cfg := c4.add 84 m31
theorem c5_ok : CfgOK c5 := add_ok c4_ok fun xs v h => by
  unfold m31 at h; split at h
  · cases h; exact pure_of_callB c4_ok noCall_ok (e31 _ _ _ _ _) rfl
  · cases h
def m30 : List AV → Option (Bool × AV)
  | [.agg [.int .i64 num, .int .i64 den, .int .i64 adj, .int .i64 pos, .int .i64 frac]] => some (true, .int .i64 (M.step num adj))
  | _ => none
noncomputable def c6 : Cfg := c5

theorem c6_ok : CfgOK c6 := c5_ok

theorem e28 (num den adj pos frac n : Int) : callB c6 noCall 0 102 [.agg [.int .i64 num, .int .i64 den, .int .i64 adj, .int .i64 pos, .int .i64 frac], .int .i64 n] [] 0 = some (.int .i64 (M.ahead num adj frac n), [], 0) := by
  kernel_rfl
def m28 : List AV → Option (Bool × AV)
  | [.agg [.int .i64 num, .int .i64 den, .int .i64 adj, .int .i64 pos, .int .i64 frac], .int .i64 n] => some (true, .int .i64 (M.ahead num adj frac n))
  | _ => none
noncomputable def c7 : Cfg := c6.add 102 m28
theorem c7_ok : CfgOK c7 := add_ok c6_ok fun xs v h => by
  unfold m28 at h; split at h
  · cases h; exact pure_of_callB c6_ok noCall_ok (e28 _ _ _ _ _ _) rfl
  · cases h
theorem e32 (adj : Int) : callB c7 noCall 0 81 [.int .i64 adj] [] 0 = some (.bool (M.tuned adj), [], 0) := by
  refine (show callB c7 noCall 0 81 [.int .i64 adj] [] 0 = bif decide (adj ≥ -4096) then some (AV.bool (decide (adj ≤ 4096)), [], 0) else some (AV.bool false, [], 0) by kernel_rfl).trans ?_
  unfold M.tuned
  repeat' (refine condCases (fun h => ?_) (fun h => ?_))
  all_goals (first | rfl | (simp only [*, Bool.false_and, Bool.and_false, Bool.true_and, Bool.and_true]; done) | (simp only [*, Bool.false_and, Bool.and_false, Bool.true_and, Bool.and_true]; rfl))
def m32 : List AV → Option (Bool × AV)
  | [.int .i64 adj] => some (true, .bool (M.tuned adj))
  | _ => none
noncomputable def c8 : Cfg := c7.add 81 m32
theorem c8_ok : CfgOK c8 := add_ok c7_ok fun xs v h => by
  unfold m32 at h; split at h
  · cases h; exact pure_of_callB c7_ok noCall_ok (e32 _) rfl
  · cases h
theorem e33 (num den : Int) : callB c8 noCall 0 80 [.agg [.int .i64 num, .int .i64 den]] [] 0 = some (.bool (M.ratioValid num den), [], 0) := by
  refine (show callB c8 noCall 0 80 [.agg [.int .i64 num, .int .i64 den]] [] 0 = (bif decide (num ≥ 1) then (bif decide (den ≥ 1) then (bif decide (num ≤ 68719476736) then (bif decide (den ≤ 68719476736) then some (AV.bool (M.gcdT num den == 1), [], 0) else some (AV.bool false, [], 0)) else some (AV.bool false, [], 0)) else some (AV.bool false, [], 0)) else some (AV.bool false, [], 0)) by kernel_rfl).trans ?_
  unfold M.ratioValid
  repeat' (refine condCases (fun h => ?_) (fun h => ?_))
  all_goals (first | rfl | (simp only [*, Bool.false_and, Bool.and_false, Bool.true_and, Bool.and_true]; done) | (simp only [*, Bool.false_and, Bool.and_false, Bool.true_and, Bool.and_true]; rfl))
def m33 : List AV → Option (Bool × AV)
  | [.agg [.int .i64 num, .int .i64 den]] => some (true, .bool (M.ratioValid num den))
  | _ => none
noncomputable def c9 : Cfg := c8.add 80 m33
theorem c9_ok : CfgOK c9 := add_ok c8_ok fun xs v h => by
  unfold m33 at h; split at h
  · cases h; exact pure_of_callB c8_ok noCall_ok (e33 _ _) rfl
  · cases h
theorem e34 (num den : Int) : callB c9 noCall 0 83 [.agg [.int .i64 num, .int .i64 den]] [] 0 = some (.bool (M.ratioValid num den), [], 0) := by
  refine (show callB c9 noCall 0 83 [.agg [.int .i64 num, .int .i64 den]] [] 0 = (bif decide (num ≥ 1) then (bif decide (den ≥ 1) then (bif decide (num ≤ 68719476736) then (bif decide (den ≤ 68719476736) then some (AV.bool (M.gcdT num den == 1), [], 0) else some (AV.bool false, [], 0)) else some (AV.bool false, [], 0)) else some (AV.bool false, [], 0)) else some (AV.bool false, [], 0)) by kernel_rfl).trans ?_
  unfold M.ratioValid
  repeat' (refine condCases (fun h => ?_) (fun h => ?_))
  all_goals (first | rfl | (simp only [*, Bool.false_and, Bool.and_false, Bool.true_and, Bool.and_true]; done) | (simp only [*, Bool.false_and, Bool.and_false, Bool.true_and, Bool.and_true]; rfl))
def m34 : List AV → Option (Bool × AV)
  | [.agg [.int .i64 num, .int .i64 den]] => some (true, .bool (M.ratioValid num den))
  | _ => none
noncomputable def c10 : Cfg := c9.add 83 m34
theorem c10_ok : CfgOK c10 := add_ok c9_ok fun xs v h => by
  unfold m34 at h; split at h
  · cases h; exact pure_of_callB c9_ok noCall_ok (e34 _ _) rfl
  · cases h
theorem e17 (num den adj pos frac : Int) : callB c10 noCall 0 64 [.agg [.int .i64 num, .int .i64 den, .int .i64 adj, .int .i64 pos, .int .i64 frac]] [] 0 = some (.bool (M.valid num den adj pos frac), [], 0) := by
  refine (show callB c10 noCall 0 64 [.agg [.int .i64 num, .int .i64 den, .int .i64 adj, .int .i64 pos, .int .i64 frac]] [] 0 = (bif M.ratioValid num den then (bif decide (num ≤ 768000) then (bif decide (den ≤ 768000) then (bif M.tuned adj then (bif decide (pos ≥ 0) then (bif decide (pos ≤ 1125899906842624) then (bif decide (frac ≥ 0) then some (AV.bool (decide (frac < M.parts den)), [], 0) else some (AV.bool false, [], 0)) else some (AV.bool false, [], 0)) else some (AV.bool false, [], 0)) else some (AV.bool false, [], 0)) else some (AV.bool false, [], 0)) else some (AV.bool false, [], 0)) else some (AV.bool false, [], 0)) by kernel_rfl).trans ?_
  unfold M.valid
  repeat' (refine condCases (fun h => ?_) (fun h => ?_))
  all_goals (first | rfl | (simp only [*, Bool.false_and, Bool.and_false, Bool.true_and, Bool.and_true]; done) | (simp only [*, Bool.false_and, Bool.and_false, Bool.true_and, Bool.and_true]; rfl))
def m17 : List AV → Option (Bool × AV)
  | [.agg [.int .i64 num, .int .i64 den, .int .i64 adj, .int .i64 pos, .int .i64 frac]] => some (true, .bool (M.valid num den adj pos frac))
  | _ => none
noncomputable def c11 : Cfg := c10.add 64 m17
theorem c11_ok : CfgOK c11 := add_ok c10_ok fun xs v h => by
  unfold m17 at h; split at h
  · cases h; exact pure_of_callB c10_ok noCall_ok (e17 _ _ _ _ _) rfl
  · cases h
theorem e18 (num den adj pos frac : Int) : callB c11 noCall 0 67 [.agg [.int .i64 num, .int .i64 den, .int .i64 adj, .int .i64 pos, .int .i64 frac]] [] 0 = some (.bool (M.valid num den adj pos frac), [], 0) := by
  refine (show callB c11 noCall 0 67 [.agg [.int .i64 num, .int .i64 den, .int .i64 adj, .int .i64 pos, .int .i64 frac]] [] 0 = (bif M.ratioValid num den then (bif decide (num ≤ 768000) then (bif decide (den ≤ 768000) then (bif decide (adj ≥ -4096) then (bif decide (adj ≤ 4096) then (bif decide (pos ≥ 0) then (bif decide (pos ≤ 1125899906842624) then (bif decide (frac ≥ 0) then some (AV.bool (decide (frac < M.parts den)), [], 0) else some (AV.bool false, [], 0)) else some (AV.bool false, [], 0)) else some (AV.bool false, [], 0)) else some (AV.bool false, [], 0)) else some (AV.bool false, [], 0)) else some (AV.bool false, [], 0)) else some (AV.bool false, [], 0)) else some (AV.bool false, [], 0)) by kernel_rfl).trans ?_
  unfold M.valid M.tuned
  repeat' (refine condCases (fun h => ?_) (fun h => ?_))
  all_goals (first | rfl | (simp only [*, Bool.false_and, Bool.and_false, Bool.true_and, Bool.and_true]; done) | (simp only [*, Bool.false_and, Bool.and_false, Bool.true_and, Bool.and_true]; rfl))
def m18 : List AV → Option (Bool × AV)
  | [.agg [.int .i64 num, .int .i64 den, .int .i64 adj, .int .i64 pos, .int .i64 frac]] => some (true, .bool (M.valid num den adj pos frac))
  | _ => none
noncomputable def c12 : Cfg := c11.add 67 m18
theorem c12_ok : CfgOK c12 := add_ok c11_ok fun xs v h => by
  unfold m18 at h; split at h
  · cases h; exact pure_of_callB c11_ok noCall_ok (e18 _ _ _ _ _) rfl
  · cases h
end Ph
end Go.Proofs.Ytooiechjanmdjaa

/- The models of phases and ratios (by names): what a position, an advance and a new phase come to. -/
namespace Go.Proofs.Ytooiechjanmdjaa
namespace Ph
open Am
open Go.Proofs.Ytooiechjanmdjaa.M (w64)
set_option maxRecDepth 100000
set_option linter.unusedVariables false
set_option linter.unusedSimpArgs false
namespace M
def chk (num den adj pos frac n : Int) : Int := bif !valid num den adj pos frac then 1 else bif !decide (n < 0) then (bif decide (n > 65536) then 2 else 0) else 2
def atP (num den adj pos frac n : Int) : Int := bif chk num den adj pos frac n != 0 then 0 else w64 (pos + w64 ((ahead num adj frac n).tdiv (parts den)))
def atF (num den adj pos frac n : Int) : Int := bif chk num den adj pos frac n != 0 then 0 else (ahead num adj frac n).tmod (parts den)
def rAhead (num adj frac n : Int) : Int := w64 (frac + w64 (n * step num adj))
def rAtP (num den adj pos frac n : Int) : Int := bif chk num den adj pos frac n != 0 then 0 else w64 (pos + w64 ((rAhead num adj frac n).tdiv (parts den)))
def rAtF (num den adj pos frac n : Int) : Int := bif chk num den adj pos frac n != 0 then 0 else (rAhead num adj frac n).tmod (parts den)
def mkE (a b : Int) : Int := bif decide (a < 1) || decide (b < 1) then 1 else bif decide (w64 (a.tdiv (gcdT a b)) > 68719476736) || decide (w64 (b.tdiv (gcdT a b)) > 68719476736) then 2 else 0
def mkN (a b : Int) : Int := bif mkE a b != 0 then 0 else w64 (a.tdiv (gcdT a b))
def mkD (a b : Int) : Int := bif mkE a b != 0 then 0 else w64 (b.tdiv (gcdT a b))
def rtE (num den adj pos frac n : Int) : Int := bif !valid num den adj pos frac then 1 else bif decide (n < -4096) || decide (n > 4096) then 2 else 0
def nwE (num den : Int) : Int := bif !valid num den 0 0 0 then 1 else 0
def rAdE (num den adj pos frac n : Int) : Int := bif chk num den adj pos frac n != 0 then chk num den adj pos frac n else bif decide (rAtP num den adj pos frac n > 1125899906842624) then 2 else 0
def adE (num den adj pos frac n : Int) : Int := bif chk num den adj pos frac n != 0 then chk num den adj pos frac n else bif decide (atP num den adj pos frac n > 1125899906842624) then 2 else 0
/-- a value unless there is an error -/
def un (e x : Int) : Int := bif e != 0 then 0 else x
end M

theorem gcdT_zero (a b : Int) : M.gcdT a b = 0 → a = 0 ∧ b = 0 := by
  induction a, b using M.gcdT.induct with
  | case1 a => intro h; rw [M.gcdT] at h; simpa using h
  | case2 a b hb ih =>
    intro h
    rw [M.gcdT, dif_neg hb] at h
    exact absurd (ih h).1 hb
theorem parts_ne {den : Int} (h1 : 1 ≤ den) (h2 : den ≤ 68719476736) : M.parts den ≠ 0 := by
  have : M.parts den = den * 65536 := by
    unfold M.parts
    exact w64_in (by omega) (by omega)
  omega
theorem valid_den {num den adj pos frac : Int} (h : M.valid num den adj pos frac = true) : (M.parts den != 0) = true := by
  simp only [M.valid, M.ratioValid, Bool.and_eq_true, decide_eq_true_eq] at h
  have := parts_ne (den := den) (by omega) (by omega)
  simpa using this

theorem e27 (num den adj pos frac n : Int) : callB c12 noCall 0 101 [.agg [.int .i64 num, .int .i64 den, .int .i64 adj, .int .i64 pos, .int .i64 frac], .int .i64 n] [] 0 = some (.int .i64 (M.chk num den adj pos frac n), [], 0) := by
  refine (show callB c12 noCall 0 101 [.agg [.int .i64 num, .int .i64 den, .int .i64 adj, .int .i64 pos, .int .i64 frac], .int .i64 n] [] 0 = (bif !M.valid num den adj pos frac then some (AV.int IntKind.i64 1, [], 0) else bif !decide (n < 0) then bif decide (n > 65536) then some (AV.int IntKind.i64 2, [], 0) else some (AV.int IntKind.i64 0, [], 0) else some (AV.int IntKind.i64 2, [], 0)) by kernel_rfl).trans ?_
  unfold M.chk
  repeat' (refine condCases (fun h => ?_) (fun h => ?_))
  all_goals (first | rfl | (simp only [*, Bool.false_and, Bool.and_false, Bool.true_and, Bool.and_true, Bool.true_or, Bool.or_true, Bool.false_or, cond_true, cond_false]; done) | (simp_all; done))
def m27 : List AV → Option (Bool × AV)
  | [.agg [.int .i64 num, .int .i64 den, .int .i64 adj, .int .i64 pos, .int .i64 frac], .int .i64 n] => some (true, .int .i64 (M.chk num den adj pos frac n))
  | _ => none
noncomputable def c13 : Cfg := c12.add 101 m27
theorem c13_ok : CfgOK c13 := add_ok c12_ok fun xs v h => by
  unfold m27 at h; split at h
  · cases h; exact pure_of_callB c12_ok noCall_ok (e27 _ _ _ _ _ _) rfl
  · cases h
theorem e12 (num den adj pos frac n : Int) : callB c13 noCall 0 93 [.agg [.int .i64 num, .int .i64 den, .int .i64 adj, .int .i64 pos, .int .i64 frac], .int .i64 n] [] 0 = some (.tuple [.int .i64 (M.atP num den adj pos frac n), .int .i64 (M.atF num den adj pos frac n), .int .i64 (M.chk num den adj pos frac n)], [], 0) := by
  refine (show callB c13 noCall 0 93 [.agg [.int .i64 num, .int .i64 den, .int .i64 adj, .int .i64 pos, .int .i64 frac], .int .i64 n] [] 0 = (bif M.chk num den adj pos frac n != 0 then some (.tuple [.int .i64 0, .int .i64 0, .int .i64 (M.chk num den adj pos frac n)], [], 0) else bif M.parts den != 0 && true then bif M.parts den != 0 && true then some (.tuple [.int .i64 (IntKind.i64.wrap (pos + IntKind.i64.wrap ((M.ahead num adj frac n).tdiv (M.parts den)))), .int .i64 ((M.ahead num adj frac n).tmod (M.parts den)), .int .i64 0], [], 0) else none else none) by kernel_rfl).trans ?_
  unfold M.atP M.atF
  refine condCases (fun h => ?_) (fun h => ?_)
  · simp only [h, cond_true]
  · have hv : M.valid num den adj pos frac = true := by
      unfold M.chk at h
      cases hv : M.valid num den adj pos frac with
      | true => rfl
      | false => simp [hv] at h
    simp only [valid_den hv, h, Bool.and_true, cond_true, cond_false]
    simp at h
    rw [h]; rfl
def m12 : List AV → Option (Bool × AV)
  | [.agg [.int .i64 num, .int .i64 den, .int .i64 adj, .int .i64 pos, .int .i64 frac], .int .i64 n] => some (true, .tuple [.int .i64 (M.atP num den adj pos frac n), .int .i64 (M.atF num den adj pos frac n), .int .i64 (M.chk num den adj pos frac n)])
  | _ => none
noncomputable def c14 : Cfg := c13.add 93 m12
theorem c14_ok : CfgOK c14 := add_ok c13_ok fun xs v h => by
  unfold m12 at h; split at h
  · cases h; exact pure_of_callB c13_ok noCall_ok (e12 _ _ _ _ _ _) rfl
  · cases h
def m13 : List AV → Option (Bool × AV)
  | [.agg [.int .i64 num, .int .i64 den, .int .i64 adj, .int .i64 pos, .int .i64 frac], .int .i64 n] => some (true, .tuple [.int .i64 (M.rAtP num den adj pos frac n), .int .i64 (M.rAtF num den adj pos frac n), .int .i64 (M.chk num den adj pos frac n)])
  | _ => none
noncomputable def c15 : Cfg := c14

theorem c15_ok : CfgOK c15 := c14_ok

def m14 : List AV → Option (Bool × AV)
  | [.agg [.int .i64 num, .int .i64 den, .int .i64 adj, .int .i64 pos, .int .i64 frac], .int .i64 n] => some (true, .tuple [.agg [.int .i64 (M.un (M.rAdE num den adj pos frac n) (num)), .int .i64 (M.un (M.rAdE num den adj pos frac n) (den)), .int .i64 (M.un (M.rAdE num den adj pos frac n) (adj)), .int .i64 (M.un (M.rAdE num den adj pos frac n) (M.rAtP num den adj pos frac n)), .int .i64 (M.un (M.rAdE num den adj pos frac n) (M.rAtF num den adj pos frac n))], .int .i64 (M.rAdE num den adj pos frac n)])
  | _ => none
noncomputable def c16 : Cfg := c15

theorem c16_ok : CfgOK c16 := c15_ok

theorem e11 (num den adj pos frac n : Int) : callB c16 noCall 0 92 [.agg [.int .i64 num, .int .i64 den, .int .i64 adj, .int .i64 pos, .int .i64 frac], .int .i64 n] [] 0 = some (.tuple [.agg [.int .i64 (M.un (M.adE num den adj pos frac n) (num)), .int .i64 (M.un (M.adE num den adj pos frac n) (den)), .int .i64 (M.un (M.adE num den adj pos frac n) (adj)), .int .i64 (M.un (M.adE num den adj pos frac n) (M.atP num den adj pos frac n)), .int .i64 (M.un (M.adE num den adj pos frac n) (M.atF num den adj pos frac n))], .int .i64 (M.adE num den adj pos frac n)], [], 0) := by
  refine (show callB c16 noCall 0 92 [.agg [.int .i64 num, .int .i64 den, .int .i64 adj, .int .i64 pos, .int .i64 frac], .int .i64 n] [] 0 = (bif M.chk num den adj pos frac n == 0 then bif decide (M.atP num den adj pos frac n > 1125899906842624) then some (.tuple [.agg [.int .i64 0, .int .i64 0, .int .i64 0, .int .i64 0, .int .i64 0], .int .i64 2], [], 0) else  bif M.chk num den adj pos frac n != 0 then some (.tuple [.agg [.int .i64 0, .int .i64 0, .int .i64 0, .int .i64 0, .int .i64 0], .int .i64 (M.chk num den adj pos frac n)], [], 0) else some (.tuple [.agg [.int .i64 num, .int .i64 den, .int .i64 adj, .int .i64 (M.atP num den adj pos frac n), .int .i64 (M.atF num den adj pos frac n)], .int .i64 0], [], 0) else bif M.chk num den adj pos frac n != 0 then some (.tuple [.agg [.int .i64 0, .int .i64 0, .int .i64 0, .int .i64 0, .int .i64 0], .int .i64 (M.chk num den adj pos frac n)], [], 0) else some (.tuple [.agg [.int .i64 num, .int .i64 den, .int .i64 adj, .int .i64 (M.atP num den adj pos frac n), .int .i64 (M.atF num den adj pos frac n)], .int .i64 0], [], 0)) by kernel_rfl).trans ?_
  repeat' (refine condCases (fun h => ?_) (fun h => ?_))
  all_goals (try simp only [bne, Bool.not_eq_true', Bool.not_eq_false'] at *)
  all_goals (first | (simp only [M.adE, M.un, *, bne, Bool.not_true, Bool.not_false, Bool.true_or, Bool.or_true, Bool.false_or, Bool.or_false, cond_true, cond_false]; done) | (simp only [M.adE, M.un, *, bne, Bool.not_true, Bool.not_false, Bool.true_or, Bool.or_true, Bool.false_or, Bool.or_false, cond_true, cond_false]; rfl) | (simp_all; done))
def m11 : List AV → Option (Bool × AV)
  | [.agg [.int .i64 num, .int .i64 den, .int .i64 adj, .int .i64 pos, .int .i64 frac], .int .i64 n] => some (true, .tuple [.agg [.int .i64 (M.un (M.adE num den adj pos frac n) (num)), .int .i64 (M.un (M.adE num den adj pos frac n) (den)), .int .i64 (M.un (M.adE num den adj pos frac n) (adj)), .int .i64 (M.un (M.adE num den adj pos frac n) (M.atP num den adj pos frac n)), .int .i64 (M.un (M.adE num den adj pos frac n) (M.atF num den adj pos frac n))], .int .i64 (M.adE num den adj pos frac n)])
  | _ => none
noncomputable def c17 : Cfg := c16.add 92 m11
theorem c17_ok : CfgOK c17 := add_ok c16_ok fun xs v h => by
  unfold m11 at h; split at h
  · cases h; exact pure_of_callB c16_ok noCall_ok (e11 _ _ _ _ _ _) rfl
  · cases h
def m16 : List AV → Option (Bool × AV)
  | [.agg [.int .i64 num, .int .i64 den, .int .i64 adj, .int .i64 pos, .int .i64 frac], .int .i64 n] => some (true, .tuple [.agg [.int .i64 (M.un (M.rtE num den adj pos frac n) (num)), .int .i64 (M.un (M.rtE num den adj pos frac n) (den)), .int .i64 (M.un (M.rtE num den adj pos frac n) (n)), .int .i64 (M.un (M.rtE num den adj pos frac n) (pos)), .int .i64 (M.un (M.rtE num den adj pos frac n) (frac))], .int .i64 (M.rtE num den adj pos frac n)])
  | _ => none
noncomputable def c18 : Cfg := c17

theorem c18_ok : CfgOK c18 := c17_ok

def m20 : List AV → Option (Bool × AV)
  | [.agg [.int .i64 num, .int .i64 den]] => some (true, .tuple [.agg [.int .i64 (M.un (M.nwE num den) (num)), .int .i64 (M.un (M.nwE num den) (den)), .int .i64 0, .int .i64 0, .int .i64 0], .int .i64 (M.nwE num den)])
  | _ => none
noncomputable def c19 : Cfg := c18

theorem c19_ok : CfgOK c19 := c18_ok

theorem e19 (num den : Int) : callB c19 noCall 0 57 [.agg [.int .i64 num, .int .i64 den]] [] 0 = some (.tuple [.agg [.int .i64 (M.un (M.nwE num den) (num)), .int .i64 (M.un (M.nwE num den) (den)), .int .i64 0, .int .i64 0, .int .i64 0], .int .i64 (M.nwE num den)], [], 0) := by
  refine (show callB c19 noCall 0 57 [.agg [.int .i64 num, .int .i64 den]] [] 0 = (bif !M.valid num den 0 0 0 then some (.tuple [.agg [.int .i64 0, .int .i64 0, .int .i64 0, .int .i64 0, .int .i64 0], .int .i64 1], [], 0) else some (.tuple [.agg [.int .i64 num, .int .i64 den, .int .i64 0, .int .i64 0, .int .i64 0], .int .i64 0], [], 0)) by kernel_rfl).trans ?_
  repeat' (refine condCases (fun h => ?_) (fun h => ?_))
  all_goals (try simp only [bne, Bool.not_eq_true', Bool.not_eq_false'] at *)
  all_goals (first | (simp only [M.nwE, M.un, *, bne, Bool.not_true, Bool.not_false, Bool.true_or, Bool.or_true, Bool.false_or, Bool.or_false, cond_true, cond_false]; done) | (simp only [M.nwE, M.un, *, bne, Bool.not_true, Bool.not_false, Bool.true_or, Bool.or_true, Bool.false_or, Bool.or_false, cond_true, cond_false]; rfl) | (simp_all; done))
def m19 : List AV → Option (Bool × AV)
  | [.agg [.int .i64 num, .int .i64 den]] => some (true, .tuple [.agg [.int .i64 (M.un (M.nwE num den) (num)), .int .i64 (M.un (M.nwE num den) (den)), .int .i64 0, .int .i64 0, .int .i64 0], .int .i64 (M.nwE num den)])
  | _ => none
noncomputable def c20 : Cfg := c19.add 57 m19
theorem c20_ok : CfgOK c20 := add_ok c19_ok fun xs v h => by
  unfold m19 at h; split at h
  · cases h; exact pure_of_callB c19_ok noCall_ok (e19 _ _) rfl
  · cases h
theorem e42 (num den : Int) : callB c20 noCall 0 31 [.int .i64 num, .int .i64 den] [] 0 = some (.tuple [.agg [.int .i64 (M.mkN num den), .int .i64 (M.mkD num den)], .int .i64 (M.mkE num den)], [], 0) := by
  refine (show callB c20 noCall 0 31 [.int .i64 num, .int .i64 den] [] 0 = (bif !decide (num < 1) then (bif decide (den < 1) then some (.tuple [.agg [.int .i64 0, .int .i64 0], .int .i64 1], [], 0) else bif M.gcdT num den != 0 && true then bif M.gcdT num den != 0 && true then bif !decide (IntKind.i64.wrap (num.tdiv (M.gcdT num den)) > 68719476736) then (bif decide (IntKind.i64.wrap (den.tdiv (M.gcdT num den)) > 68719476736) then some (.tuple [.agg [.int .i64 0, .int .i64 0], .int .i64 2], [], 0) else some (.tuple [.agg [.int .i64 (IntKind.i64.wrap (num.tdiv (M.gcdT num den))), .int .i64 (IntKind.i64.wrap (den.tdiv (M.gcdT num den)))], .int .i64 0], [], 0)) else some (.tuple [.agg [.int .i64 0, .int .i64 0], .int .i64 2], [], 0) else none else none) else some (.tuple [.agg [.int .i64 0, .int .i64 0], .int .i64 1], [], 0)) by kernel_rfl).trans ?_
  have hg : decide (num < 1) = false → (M.gcdT num den != 0) = true := fun h => by
    have h2 : M.gcdT num den ≠ 0 := fun h0 => by
      have := (gcdT_zero num den h0).1
      simp at h; omega
    simpa using h2
  unfold M.mkN M.mkD M.mkE M.w64
  refine condCases (fun h => ?_) (fun h => ?_)
  · have h1 : decide (num < 1) = false := by simpa using h
    have h2 := hg h1
    simp only [h2, Bool.and_true, cond_true, h1, Bool.false_or]
    refine condCases (fun h3 => ?_) (fun h3 => ?_)
    · simp only [h3, cond_true]; rfl
    · simp only [h3, cond_false]
      refine condCases (fun h4 => ?_) (fun h4 => ?_)
      · have h4' := (Bool.not_eq_true' _ ▸ h4 : _ = false)
        refine condCases (fun h5 => ?_) (fun h5 => ?_)
        · simp only [h4', h5, Bool.or_true, cond_true]; rfl
        · simp only [h4', h5, Bool.or_false, cond_false]; rfl
      · have h4' := (Bool.not_eq_false' _ ▸ h4 : _ = true)
        simp only [h4', Bool.true_or, cond_true]; rfl
  · have h1 : decide (num < 1) = true := by simpa using h
    simp only [h1, Bool.true_or, cond_true]; rfl
def m42 : List AV → Option (Bool × AV)
  | [.int .i64 num, .int .i64 den] => some (true, .tuple [.agg [.int .i64 (M.mkN num den), .int .i64 (M.mkD num den)], .int .i64 (M.mkE num den)])
  | _ => none
noncomputable def c21 : Cfg := c20.add 31 m42
theorem c21_ok : CfgOK c21 := add_ok c20_ok fun xs v h => by
  unfold m42 at h; split at h
  · cases h; exact pure_of_callB c20_ok noCall_ok (e42 _ _) rfl
  · cases h
end Ph
end Go.Proofs.Ytooiechjanmdjaa

/- The models of phases and ratios (by names): plain laws. -/
namespace Go.Proofs.Ytooiechjanmdjaa
namespace Ph
open Am
open Go.Proofs.Ytooiechjanmdjaa.M (w64)
set_option maxRecDepth 100000
set_option linter.unusedVariables false
set_option linter.unusedSimpArgs false
namespace M
structure Ph where
  num : Int
  den : Int
  adj : Int
  pos : Int
  frac : Int
def newP (n d : Int) : Ph := ⟨un (nwE n d) n, un (nwE n d) d, 0, 0, 0⟩
def rtP (p : Ph) (n : Int) : Ph := ⟨un (rtE p.num p.den p.adj p.pos p.frac n) p.num, un (rtE p.num p.den p.adj p.pos p.frac n) p.den, un (rtE p.num p.den p.adj p.pos p.frac n) n, un (rtE p.num p.den p.adj p.pos p.frac n) p.pos, un (rtE p.num p.den p.adj p.pos p.frac n) p.frac⟩
def rAE (p : Ph) (n : Int) : Int := rAdE p.num p.den p.adj p.pos p.frac n
def rAP (p : Ph) (n : Int) : Ph := ⟨un (rAE p n) p.num, un (rAE p n) p.den, un (rAE p n) p.adj, un (rAE p n) (rAtP p.num p.den p.adj p.pos p.frac n), un (rAE p n) (rAtF p.num p.den p.adj p.pos p.frac n)⟩
def aE (p : Ph) (n : Int) : Int := adE p.num p.den p.adj p.pos p.frac n
def aP (p : Ph) (n : Int) : Ph := ⟨un (aE p n) p.num, un (aE p n) p.den, un (aE p n) p.adj, un (aE p n) (atP p.num p.den p.adj p.pos p.frac n), un (aE p n) (atF p.num p.den p.adj p.pos p.frac n)⟩
end M
theorem gcdT_nat (m n : Nat) : M.gcdT m n = (Nat.gcd m n : Nat) := by
  induction n using Nat.strongRecOn generalizing m with
  | _ n ih =>
    rw [M.gcdT]
    by_cases hn : n = 0
    · subst hn; simp
    · rw [dif_neg (by omega), ← Int.ofNat_tmod, ih (m % n) (Nat.mod_lt _ (by omega)) n, Nat.gcd_comm m n, Nat.gcd_rec n m, Nat.gcd_comm]

theorem valid_iff {num den adj pos frac : Int} : M.valid num den adj pos frac = true ↔
    (1 ≤ num ∧ 1 ≤ den ∧ M.gcdT num den = 1) ∧ (num ≤ 768000 ∧ den ≤ 768000) ∧ (-4096 ≤ adj ∧ adj ≤ 4096) ∧ (0 ≤ pos ∧ pos ≤ 1125899906842624) ∧ 0 ≤ frac ∧ frac < den * 65536 := by
  have hp : 1 ≤ den → den ≤ 768000 → M.parts den = den * 65536 := fun h1 h2 => by
    unfold M.parts; exact w64_in (by omega) (by omega)
  simp only [M.valid, M.ratioValid, M.tuned, Bool.and_eq_true, decide_eq_true_eq, beq_iff_eq]
  constructor
  · rintro ⟨⟨⟨⟨⟨⟨⟨⟨⟨⟨⟨h1, h2⟩, h3⟩, h4⟩, h5⟩, h6⟩, h7⟩, h8, h9⟩, h10⟩, h11⟩, h12⟩, h13⟩
    rw [hp h2 h7] at h13
    exact ⟨⟨h1, h2, h5⟩, ⟨h6, h7⟩, ⟨h8, h9⟩, ⟨h10, h11⟩, h12, h13⟩
  · rintro ⟨⟨h1, h2, h5⟩, ⟨h6, h7⟩, ⟨h8, h9⟩, ⟨h10, h11⟩, h12, h13⟩
    rw [hp h2 h7]
    exact ⟨⟨⟨⟨⟨⟨⟨⟨⟨⟨⟨h1, h2⟩, by omega⟩, by omega⟩, h5⟩, h6⟩, h7⟩, h8, h9⟩, h10⟩, h11⟩, h12⟩, h13⟩

/-- a valid phase -/
def PV (p : M.Ph) : Prop := M.valid p.num p.den p.adj p.pos p.frac = true

theorem parts_eq {den : Int} (h1 : 1 ≤ den) (h2 : den ≤ 768000) : M.parts den = den * 65536 := by
  unfold M.parts; exact w64_in (by omega) (by omega)

theorem mk_ok {a b : Int} (ha : 1 ≤ a) (ha' : a ≤ 768000) (hb : 1 ≤ b) (hb' : b ≤ 768000) : M.valid (M.mkN a b) (M.mkD a b) 0 0 0 = true := by
  obtain ⟨m, rfl⟩ := Int.eq_ofNat_of_zero_le (show 0 ≤ a by omega)
  obtain ⟨n, rfl⟩ := Int.eq_ofNat_of_zero_le (show 0 ≤ b by omega)
  have hg : 0 < Nat.gcd m n := Nat.gcd_pos_of_pos_left _ (by omega)
  have hm : m / Nat.gcd m n ≤ m := Nat.div_le_self _ _
  have hn : n / Nat.gcd m n ≤ n := Nat.div_le_self _ _
  have hm1 : 1 ≤ m / Nat.gcd m n := Nat.div_pos (Nat.le_of_dvd (by omega) (Nat.gcd_dvd_left m n)) hg
  have hn1 : 1 ≤ n / Nat.gcd m n := Nat.div_pos (Nat.le_of_dvd (by omega) (Nat.gcd_dvd_right m n)) hg
  have hcop : Nat.gcd (m / Nat.gcd m n) (n / Nat.gcd m n) = 1 := Nat.gcd_div_gcd_div_gcd_of_pos_left (by omega)
  have e1 : M.w64 ((m : Int).tdiv (M.gcdT m n)) = ((m / Nat.gcd m n : Nat) : Int) := by
    rw [gcdT_nat, ← Int.ofNat_tdiv]; exact w64_in (by omega) (by omega)
  have e2 : M.w64 ((n : Int).tdiv (M.gcdT m n)) = ((n / Nat.gcd m n : Nat) : Int) := by
    rw [gcdT_nat, ← Int.ofNat_tdiv]; exact w64_in (by omega) (by omega)
  have hE : M.mkE m n = 0 := by
    unfold M.mkE
    rw [e1, e2, decide_eq_false (by omega), decide_eq_false (by omega), decide_eq_false (by omega), decide_eq_false (by omega)]
    rfl
  have hN : M.mkN m n = ((m / Nat.gcd m n : Nat) : Int) := by unfold M.mkN; rw [hE, e1]; rfl
  have hD : M.mkD m n = ((n / Nat.gcd m n : Nat) : Int) := by unfold M.mkD; rw [hE, e2]; rfl
  rw [hN, hD, valid_iff, gcdT_nat, hcop]
  refine ⟨⟨by omega, by omega, rfl⟩, ⟨by omega, by omega⟩, ⟨by omega, by omega⟩, ⟨by omega, by omega⟩, by omega, by omega⟩

theorem un_zero {e x : Int} (h : e = 0) : M.un e x = x := by subst h; rfl

theorem newP_ok {n d : Int} (h : M.valid n d 0 0 0 = true) : M.newP n d = ⟨n, d, 0, 0, 0⟩ := by
  have : M.nwE n d = 0 := by unfold M.nwE; rw [h]; rfl
  unfold M.newP; rw [un_zero this, un_zero this]
theorem rtP_ok {p : M.Ph} (h : PV p) {n : Int} (h1 : -4096 ≤ n) (h2 : n ≤ 4096) : M.rtP p n = ⟨p.num, p.den, n, p.pos, p.frac⟩ ∧ M.rtE p.num p.den p.adj p.pos p.frac n = 0 := by
  have : M.rtE p.num p.den p.adj p.pos p.frac n = 0 := by
    unfold M.rtE; rw [h, decide_eq_false (by omega), decide_eq_false (by omega)]; rfl
  refine ⟨?_, this⟩
  unfold M.rtP; simp only [un_zero this]
theorem PV.tune {p : M.Ph} (h : PV p) {n : Int} (h1 : -4096 ≤ n) (h2 : n ≤ 4096) : PV ⟨p.num, p.den, n, p.pos, p.frac⟩ := by
  have h' := valid_iff.1 h
  exact valid_iff.2 ⟨h'.1, h'.2.1, ⟨h1, h2⟩, h'.2.2.2⟩

/-- how far a phase goes, without bounds -/
def far (p : M.Ph) (n : Int) : Int := p.frac + n * p.num * (65536 + p.adj)

theorem step_le {p : M.Ph} (h : PV p) : 1 ≤ 65536 + p.adj ∧ 1 ≤ p.num ∧ p.num * (65536 + p.adj) ≤ 53477376000 ∧ 0 ≤ p.num * (65536 + p.adj) := by
  obtain ⟨⟨a1, a2, a3⟩, ⟨b1, b2⟩, ⟨c1, c2⟩, d, e⟩ := valid_iff.1 h
  refine ⟨by omega, a1, ?_, Int.mul_nonneg (by omega) (by omega)⟩
  calc p.num * (65536 + p.adj) ≤ 768000 * (65536 + p.adj) := Int.mul_le_mul_of_nonneg_right b1 (by omega)
    _ ≤ 53477376000 := by omega

theorem far_le {p : M.Ph} (h : PV p) {n : Int} (hn : 0 ≤ n) (hn2 : n ≤ 65536) : 0 ≤ far p n ∧ far p n ≤ 3504693313536000 + 50331648000 := by
  obtain ⟨s1, s2, s3, s4⟩ := step_le h
  obtain ⟨⟨a1, a2, a3⟩, ⟨b1, b2⟩, ⟨c1, c2⟩, d, e1, e2⟩ := valid_iff.1 h
  have e : n * p.num * (65536 + p.adj) = n * (p.num * (65536 + p.adj)) := Int.mul_assoc _ _ _
  have h1 : n * (p.num * (65536 + p.adj)) ≤ 65536 * (p.num * (65536 + p.adj)) := Int.mul_le_mul_of_nonneg_right hn2 s4
  have h2 : 0 ≤ n * (p.num * (65536 + p.adj)) := Int.mul_nonneg hn s4
  unfold far
  rw [e]
  generalize n * (p.num * (65536 + p.adj)) = X at h1 h2
  generalize p.num * (65536 + p.adj) = Y at h1 s3 s4
  omega

theorem ahead_eq {p : M.Ph} (h : PV p) {n : Int} (hn : 0 ≤ n) (hn2 : n ≤ 65536) : M.ahead p.num p.adj p.frac n = far p n ∧ M.rAhead p.num p.adj p.frac n = far p n := by
  obtain ⟨s1, s2, s3, s4⟩ := step_le h
  obtain ⟨⟨a1, a2, a3⟩, ⟨b1, b2⟩, ⟨c1, c2⟩, d, e1, e2⟩ := valid_iff.1 h
  obtain ⟨f1, f2⟩ := far_le h hn hn2
  have e : n * p.num * (65536 + p.adj) = n * (p.num * (65536 + p.adj)) := Int.mul_assoc _ _ _
  have hw1 : M.w64 (65536 + p.adj) = 65536 + p.adj := w64_in (by omega) (by omega)
  have hnum : 0 ≤ n * p.num ∧ n * p.num ≤ 50331648000 := by
    refine ⟨Int.mul_nonneg hn (by omega), ?_⟩
    calc n * p.num ≤ 65536 * p.num := Int.mul_le_mul_of_nonneg_right hn2 (by omega)
      _ ≤ 50331648000 := by omega
  have hw2 : M.w64 (n * p.num) = n * p.num := w64_in (by omega) (by omega)
  have hX : 0 ≤ n * p.num * (65536 + p.adj) ∧ n * p.num * (65536 + p.adj) ≤ 3600000000000000 := by
    unfold far at f1 f2
    refine ⟨?_, by omega⟩
    rw [e]; exact Int.mul_nonneg hn s4
  constructor
  · unfold M.ahead far
    rw [hw1, hw2, w64_in (n := n * p.num * (65536 + p.adj)) (by omega) (by omega)]
    exact w64_in (by unfold far at f1 f2; omega) (by unfold far at f1 f2; omega)
  · unfold M.rAhead M.step far
    rw [hw1, w64_in (n := p.num * (65536 + p.adj)) (by omega) (by omega), ← e, w64_in (n := n * p.num * (65536 + p.adj)) (by omega) (by omega)]
    exact w64_in (by unfold far at f1 f2; omega) (by unfold far at f1 f2; omega)

theorem chk_ok {p : M.Ph} (h : PV p) {n : Int} (hn : 0 ≤ n) (hn2 : n ≤ 65536) : M.chk p.num p.den p.adj p.pos p.frac n = 0 := by
  unfold M.chk; rw [h, decide_eq_false (by omega), decide_eq_false (by omega)]; rfl

/-- where a phase stands after n frames -/
def posOf (p : M.Ph) (n : Int) : Int := p.pos + far p n / (p.den * 65536)
def fracOf (p : M.Ph) (n : Int) : Int := far p n % (p.den * 65536)

theorem at_ok {p : M.Ph} (h : PV p) {n : Int} (hn : 0 ≤ n) (hn2 : n ≤ 65536) :
    M.atP p.num p.den p.adj p.pos p.frac n = posOf p n ∧ M.rAtP p.num p.den p.adj p.pos p.frac n = posOf p n ∧ M.atF p.num p.den p.adj p.pos p.frac n = fracOf p n ∧ M.rAtF p.num p.den p.adj p.pos p.frac n = fracOf p n := by
  obtain ⟨⟨a1, a2, a3⟩, ⟨b1, b2⟩, ⟨c1, c2⟩, ⟨d1, d2⟩, e1, e2⟩ := valid_iff.1 h
  obtain ⟨f1, f2⟩ := far_le h hn hn2
  obtain ⟨g1, g2⟩ := ahead_eq h hn hn2
  have hc := chk_ok h hn hn2
  have hp := parts_eq a2 b2
  have hq : 0 ≤ far p n / (p.den * 65536) ∧ far p n / (p.den * 65536) ≤ far p n := ⟨Int.ediv_nonneg f1 (by omega), Int.ediv_le_self _ f1⟩
  have hd : (far p n).tdiv (p.den * 65536) = far p n / (p.den * 65536) := Int.tdiv_eq_ediv_of_nonneg f1
  have hm : (far p n).tmod (p.den * 65536) = far p n % (p.den * 65536) := Int.tmod_eq_emod_of_nonneg f1
  unfold M.atP M.rAtP M.atF M.rAtF posOf fracOf
  rw [hc, g1, g2, hp, hd, hm, w64_in (n := far p n / (p.den * 65536)) (by omega) (by omega), w64_in (n := p.pos + far p n / (p.den * 65536)) (by omega) (by omega)]
  exact ⟨rfl, rfl, rfl, rfl⟩

theorem PV.adv {p : M.Ph} (h : PV p) {n : Int} (hn : 0 ≤ n) (hn2 : n ≤ 65536) (hpos : posOf p n ≤ 1125899906842624) : PV ⟨p.num, p.den, p.adj, posOf p n, fracOf p n⟩ := by
  obtain ⟨⟨a1, a2, a3⟩, ⟨b1, b2⟩, ⟨c1, c2⟩, ⟨d1, d2⟩, e1, e2⟩ := valid_iff.1 h
  obtain ⟨f1, f2⟩ := far_le h hn hn2
  refine valid_iff.2 ⟨⟨a1, a2, a3⟩, ⟨b1, b2⟩, ⟨c1, c2⟩, ⟨?_, hpos⟩, Int.emod_nonneg _ (by omega), Int.emod_lt_of_pos _ (by omega)⟩
  unfold posOf
  have := Int.ediv_nonneg f1 (show 0 ≤ p.den * 65536 by omega)
  simp only
  omega

theorem adv_ok {p : M.Ph} (h : PV p) {n : Int} (hn : 0 ≤ n) (hn2 : n ≤ 65536) (hpos : posOf p n ≤ 1125899906842624) :
    M.aE p n = 0 ∧ M.aP p n = ⟨p.num, p.den, p.adj, posOf p n, fracOf p n⟩ ∧ M.rAE p n = 0 ∧ M.rAP p n = ⟨p.num, p.den, p.adj, posOf p n, fracOf p n⟩ := by
  obtain ⟨h1, h2, h3, h4⟩ := at_ok h hn hn2
  have hc := chk_ok h hn hn2
  have hE : M.aE p n = 0 := by unfold M.aE M.adE; rw [hc, h1, decide_eq_false (by omega)]; rfl
  have hR : M.rAE p n = 0 := by unfold M.rAE M.rAdE; rw [hc, h2, decide_eq_false (by omega)]; rfl
  refine ⟨hE, ?_, hR, ?_⟩
  · unfold M.aP; simp only [un_zero hE, h1, h3]
  · unfold M.rAP; simp only [un_zero hR, h2, h4]

end Ph
end Go.Proofs.Ytooiechjanmdjaa

/- The models of phases and ratios (by names): what is needed, the searches. -/
namespace Go.Proofs.Ytooiechjanmdjaa
namespace Ph
open Am
open Go.Proofs.Ytooiechjanmdjaa.M (w64)
set_option maxRecDepth 100000
set_option linter.unusedVariables false
set_option linter.unusedSimpArgs false
def m15 : List AV → Option (Bool × AV)
  | [.agg [.int .i64 num, .int .i64 den, .int .i64 adj, .int .i64 pos, .int .i64 frac], .int .i64 n] => some (true, .tuple [.agg [.int .i64 (M.un (M.rtE num den adj pos frac n) (num)), .int .i64 (M.un (M.rtE num den adj pos frac n) (den)), .int .i64 (M.un (M.rtE num den adj pos frac n) (n)), .int .i64 (M.un (M.rtE num den adj pos frac n) (pos)), .int .i64 (M.un (M.rtE num den adj pos frac n) (frac))], .int .i64 (M.rtE num den adj pos frac n)])
  | _ => none
noncomputable def d28 : Cfg := c21

theorem d28_ok : CfgOK d28 := c21_ok

namespace M
def mx (a b : Int) : Int := if b > a then b else a
def need (num den adj frac n : Int) : Int := bif n == 0 then 0 else mx (w64 (w64 ((ahead num adj frac (w64 (n - 1))).tdiv (parts den)) + 2)) (w64 ((ahead num adj frac n).tdiv (parts den)))
def ndV (num den adj pos frac n : Int) : Int := bif chk num den adj pos frac n != 0 then 0 else need num den adj frac n
def rNd (num den adj pos frac n : Int) : Int := bif chk num den adj pos frac n != 0 then 0 else bif n == 0 then 0 else w64 (mx (w64 (rAtP num den adj pos frac (w64 (n - 1)) + 2)) (rAtP num den adj pos frac n) - pos)
end M
theorem chk_zero {num den adj pos frac n : Int} (h : M.chk num den adj pos frac n = 0) : PV ⟨num, den, adj, pos, frac⟩ ∧ 0 ≤ n ∧ n ≤ 65536 := by
  unfold M.chk at h
  cases hv : M.valid num den adj pos frac with
  | false => simp [hv] at h
  | true =>
    rw [hv] at h
    by_cases h1 : n < 0
    · rw [decide_eq_true h1] at h; simp at h
    · by_cases h2 : n > 65536
      · rw [decide_eq_false h1, decide_eq_true h2] at h; simp at h
      · exact ⟨hv, by omega, by omega⟩

theorem e35 (num den adj pos frac n : Int) (h : (n == 0 || M.parts den != 0) = true) : callB d28 noCall 0 99 [.agg [.int .i64 num, .int .i64 den, .int .i64 adj, .int .i64 pos, .int .i64 frac], .int .i64 n] [] 0 = some (.int .i64 (M.need num den adj frac n), [], 0) := by
  refine (show callB d28 noCall 0 99 [.agg [.int .i64 num, .int .i64 den, .int .i64 adj, .int .i64 pos, .int .i64 frac], .int .i64 n] [] 0 = (bif n == 0 then some (.int .i64 0, [], 0) else bif M.parts den != 0 && true then bif M.parts den != 0 && true then some (.int .i64 (M.mx (M.w64 (M.w64 ((M.ahead num adj frac (M.w64 (n - 1))).tdiv (M.parts den)) + 2)) (M.w64 ((M.ahead num adj frac n).tdiv (M.parts den)))), [], 0) else none else none) by kernel_rfl).trans ?_
  unfold M.need
  cases hn : n == 0 with
  | true => rfl
  | false =>
    rw [hn, Bool.false_or] at h
    simp only [h, Bool.and_true, cond_true, cond_false]
def m35 : List AV → Option (Bool × AV)
  | [.agg [.int .i64 num, .int .i64 den, .int .i64 adj, .int .i64 pos, .int .i64 frac], .int .i64 n] => some ((n == 0 || M.parts den != 0), .int .i64 (M.need num den adj frac n))
  | _ => none
noncomputable def d29 : Cfg := d28.add 99 m35
theorem d29_ok : CfgOK d29 := add_ok d28_ok fun xs v h => by
  unfold m35 at h; split at h
  · simp only [Option.some.injEq, Prod.mk.injEq] at h; obtain ⟨h1, rfl⟩ := h; exact pure_of_callB d28_ok noCall_ok (e35 _ _ _ _ _ _ h1) rfl
  · cases h
theorem e21 (num den adj pos frac n : Int) : callB d29 noCall 0 100 [.agg [.int .i64 num, .int .i64 den, .int .i64 adj, .int .i64 pos, .int .i64 frac], .int .i64 n] [] 0 = some (.tuple [.int .i64 (M.ndV num den adj pos frac n), .int .i64 (M.chk num den adj pos frac n)], [], 0) := by
  refine (show callB d29 noCall 0 100 [.agg [.int .i64 num, .int .i64 den, .int .i64 adj, .int .i64 pos, .int .i64 frac], .int .i64 n] [] 0 = (bif M.chk num den adj pos frac n != 0 then some (.tuple [.int .i64 0, .int .i64 (M.chk num den adj pos frac n)], [], 0) else bif (n == 0 || M.parts den != 0) && true then some (.tuple [.int .i64 (M.need num den adj frac n), .int .i64 0], [], 0) else none) by kernel_rfl).trans ?_
  unfold M.ndV
  cases hc : M.chk num den adj pos frac n != 0 with
  | true => rfl
  | false =>
    have h0 : M.chk num den adj pos frac n = 0 := by simpa using hc
    have hv := valid_den (chk_zero h0).1
    simp only [hv, Bool.or_true, Bool.and_true, cond_true, cond_false]
    rw [h0]
def m21 : List AV → Option (Bool × AV)
  | [.agg [.int .i64 num, .int .i64 den, .int .i64 adj, .int .i64 pos, .int .i64 frac], .int .i64 n] => some (true, .tuple [.int .i64 (M.ndV num den adj pos frac n), .int .i64 (M.chk num den adj pos frac n)])
  | _ => none
noncomputable def d30 : Cfg := d29.add 100 m21
theorem d30_ok : CfgOK d30 := add_ok d29_ok fun xs v h => by
  unfold m21 at h; split at h
  · cases h; exact pure_of_callB d29_ok noCall_ok (e21 _ _ _ _ _ _) rfl
  · cases h
def m22 : List AV → Option (Bool × AV)
  | [.agg [.int .i64 num, .int .i64 den, .int .i64 adj, .int .i64 pos, .int .i64 frac], .int .i64 n] => some (true, .tuple [.int .i64 (M.rNd num den adj pos frac n), .int .i64 (M.chk num den adj pos frac n)])
  | _ => none
noncomputable def d31 : Cfg := d30

theorem d31_ok : CfgOK d31 := d30_ok

theorem e37 (num den adj pos frac n lim : Int) (hc : (M.w64 (n + 1) == 0 || M.parts den != 0) = true) : callB d31 noCall 0 98 [.int .i64 n, .ptr 1 0 5, .ptr 0 0 1] [(0, .fix (.cells [.int .i64 lim])), (1, .fix (.cells [.int .i64 num, .int .i64 den, .int .i64 adj, .int .i64 pos, .int .i64 frac]))] 2 = some (.bool (decide (M.need num den adj frac (M.w64 (n + 1)) > lim)), [(0, .fix (.cells [.int .i64 lim])), (1, .fix (.cells [.int .i64 num, .int .i64 den, .int .i64 adj, .int .i64 pos, .int .i64 frac]))], 2) := by
  refine (show callB d31 noCall 0 98 [.int .i64 n, .ptr 1 0 5, .ptr 0 0 1] [(0, .fix (.cells [.int .i64 lim])), (1, .fix (.cells [.int .i64 num, .int .i64 den, .int .i64 adj, .int .i64 pos, .int .i64 frac]))] 2 = (bif (M.w64 (n + 1) == 0 || M.parts den != 0) && true then some (.bool (decide (M.need num den adj frac (M.w64 (n + 1)) > lim)), [(0, .fix (.cells [.int .i64 lim])), (1, .fix (.cells [.int .i64 num, .int .i64 den, .int .i64 adj, .int .i64 pos, .int .i64 frac]))], 2) else none) by kernel_rfl).trans ?_
  rw [hc]; rfl
def m37 : List AV → Sto → Option (Bool × AV × Upd × Nat)
  | [.int .i64 n, .ptr 1 0 5, .ptr 0 0 1], [(0, .fix (.cells [.int .i64 lim])), (1, .fix (.cells [.int .i64 num, .int .i64 den, .int .i64 adj, .int .i64 pos, .int .i64 frac]))] => some ((M.w64 (n + 1) == 0 || M.parts den != 0), .bool (decide (M.need num den adj frac (M.w64 (n + 1)) > lim)), [(0, .fix (.cells [.int .i64 lim])), (1, .fix (.cells [.int .i64 num, .int .i64 den, .int .i64 adj, .int .i64 pos, .int .i64 frac]))], 2)
  | _, _ => none
noncomputable def d32 : Cfg := d31.addR 98 m37
theorem d32_ok : CfgOK d32 := addR_ok d31_ok fun xs s v u nx h => by
  unfold m37 at h; split at h
  · simp only [Option.some.injEq, Prod.mk.injEq] at h; obtain ⟨h1, rfl, rfl, rfl⟩ := h; exact callB_ok d31_ok noCall_ok 0 _ _ _ _ _ _ _ (e37 _ _ _ _ _ _ _ h1)
  · cases h
namespace M
/-- the least place from i on at which f holds, by halves -/
def srch (f : Int → Bool) : Nat → Int → Int → Int
  | 0, i, _ => i
  | n + 1, i, j => bif decide (i < j) then (bif !f ((i + j) / 2) then srch f n ((i + j) / 2 + 1) j else srch f n i ((i + j) / 2)) else i
/-- the greatest place from i on at which f holds, by halves -/
def grch (f : Int → Bool) : Nat → Int → Int → Int
  | 0, i, _ => i
  | n + 1, i, j => bif decide (i < j) then (bif f ((i + j + 1) / 2) then grch f n ((i + j + 1) / 2) j else grch f n i ((i + j + 1) / 2 - 1)) else i
end M

def sSt (num den adj pos frac lim i j : Int) : St := ⟨[(1, .func 98 [] [.ptr 1 0 5, .ptr 0 0 1]), (5, .int .i64 i), (6, .int .i64 j)], [(0, .fix (.cells [.int .i64 lim])), (1, .fix (.cells [.int .i64 num, .int .i64 den, .int .i64 adj, .int .i64 pos, .int .i64 frac]))], 2⟩
def half (i j : Int) : Int := M.w64 ((IntKind.u64.wrap (M.w64 (i + j))).fdiv 2)
theorem half_eq {i j : Int} (h1 : 0 ≤ i) (h2 : i ≤ j) (h3 : j ≤ 65536) : half i j = (i + j) / 2 := by
  unfold half
  rw [w64_in (n := i + j) (by omega) (by omega)]
  have hu : IntKind.u64.wrap (i + j) = i + j := by
    simp [IntKind.wrap, IntKind.min, IntKind.max, IntKind.signed, IntKind.bits]
    omega
  rw [hu, Int.fdiv_eq_ediv_of_nonneg _ (by omega)]
  exact w64_in (by omega) (by omega)
theorem s_step {R : Type} (num den adj pos frac lim i j : Int) (K : Kont R) : execK d32 97 2 (ntAt Try.prog 97) noCall 0 none (bodyAt Try.prog 97 0) (sSt num den adj pos frac lim i j) (kRes 2 (some [1, 5, 6]) K) =
    (bif decide (i < j) then (bif (M.w64 (half i j + 1) == 0 || M.parts den != 0) && true then
        (bif !decide (M.need num den adj frac (M.w64 (half i j + 1)) > lim) then K .normal (sSt num den adj pos frac lim (M.w64 (half i j + 1)) j) else K .normal (sSt num den adj pos frac lim i (half i j)))
      else none) else K (.exit 0) (sSt num den adj pos frac lim i j)) := by kernel_rfl
/-- what the search asks -/
def over (num den adj frac lim : Int) (k : Int) : Bool := decide (M.need num den adj frac (k + 1) > lim)
theorem s_loop {R : Type} (K : Kont R) (num den adj pos frac lim : Int) (hp : (M.parts den != 0) = true) : ∀ (n : Nat) (i j : Int), 0 ≤ i → i ≤ j → j ≤ 65536 → (j - i).toNat < n →
    ∃ m, loopK 2 (some [1, 5, 6]) (execK d32 97 2 (ntAt Try.prog 97) noCall 0 none (bodyAt Try.prog 97 0)) m (sSt num den adj pos frac lim i j) K =
      K (.exit 0) (sSt num den adj pos frac lim (M.srch (over num den adj frac lim) n i j) (M.srch (over num den adj frac lim) n i j)) := by
  intro n
  induction n with
  | zero => intro i j _ _ _ h; omega
  | succ n ih =>
    intro i j h1 h2 h3 h4
    by_cases hij : i < j
    · have hh := half_eq h1 h2 h3
      have hw : M.w64 ((i + j) / 2 + 1) = (i + j) / 2 + 1 := w64_in (by omega) (by omega)
      cases hf : over num den adj frac lim ((i + j) / 2) with
      | true =>
        obtain ⟨m, hm⟩ := ih i ((i + j) / 2) h1 (by omega) (by omega) (by omega)
        refine ⟨m + 1, ?_⟩
        rw [loopK_step, s_step, hh, hw, decide_eq_true hij, hp, Bool.or_true]
        unfold over at hf
        rw [hf]
        unfold M.srch
        rw [decide_eq_true hij]
        have hf' : over num den adj frac lim ((i + j) / 2) = true := hf
        rw [hf']
        exact hm
      | false =>
        obtain ⟨m, hm⟩ := ih ((i + j) / 2 + 1) j (by omega) (by omega) h3 (by omega)
        refine ⟨m + 1, ?_⟩
        rw [loopK_step, s_step, hh, hw, decide_eq_true hij, hp, Bool.or_true]
        unfold over at hf
        rw [hf]
        unfold M.srch
        rw [decide_eq_true hij]
        have hf' : over num den adj frac lim ((i + j) / 2) = false := hf
        rw [hf']
        exact hm
    · have e : j = i := by omega
      subst e
      refine ⟨1, ?_⟩
      rw [loopK_step, s_step, decide_eq_false hij]
      unfold M.srch
      rw [decide_eq_false hij]
      rfl
end Ph
end Go.Proofs.Ytooiechjanmdjaa

/- The models of phases and ratios (by names): how many frames can be made. -/
namespace Go.Proofs.Ytooiechjanmdjaa
namespace Ph
open Am
open Go.Proofs.Ytooiechjanmdjaa.M (w64)
set_option maxRecDepth 100000
set_option linter.unusedVariables false
set_option linter.unusedSimpArgs false
def sL : Nat → St → Option (Bool × Ex × St)
  | 2, ⟨[(1, .func 98 [] [.ptr 1 0 5, .ptr 0 0 1]), (5, .int .i64 0), (6, .int .i64 65536)], [(0, .fix (.cells [.int .i64 lim])), (1, .fix (.cells [.int .i64 num, .int .i64 den, .int .i64 adj, .int .i64 pos, .int .i64 frac]))], 2⟩ =>
    some (M.parts den != 0, .exit 0, sSt num den adj pos frac lim (M.srch (over num den adj frac lim) 65537 0 65536) (M.srch (over num den adj frac lim) 65537 0 65536))
  | _, _ => none
noncomputable def d33 : Cfg := d32.addL 97 0 sL
theorem d33_ok : CfgOK d33 := addL_ok d32_ok (by kernel_rfl) fun lo st ex st' h => by
  unfold sL at h
  split at h
  · simp only [Option.some.injEq, Prod.mk.injEq] at h
    obtain ⟨hp, rfl, rfl⟩ := h
    rename_i lim num den adj pos frac
    obtain ⟨m, hm⟩ := s_loop (fun ex st => some (ex, st)) num den adj pos frac lim hp 65537 0 65536 (by omega) (by omega) (by omega) (by omega)
    exact ⟨d32, noCall, 0, m, some [1, 5, 6], d32_ok, noCall_ok, rfl, hm⟩
  · cases h

theorem e36 (num den adj pos frac lim : Int) (hc : (M.parts den != 0) = true) : callB d33 noCall 0 97 [.int .i64 65536, .func 98 [] [.ptr 1 0 5, .ptr 0 0 1]] [(0, .fix (.cells [.int .i64 lim])), (1, .fix (.cells [.int .i64 num, .int .i64 den, .int .i64 adj, .int .i64 pos, .int .i64 frac]))] 2 = some (.int .i64 (M.srch (over num den adj frac lim) 65537 0 65536), [(0, .fix (.cells [.int .i64 lim])), (1, .fix (.cells [.int .i64 num, .int .i64 den, .int .i64 adj, .int .i64 pos, .int .i64 frac]))], 2) := by
  refine (show callB d33 noCall 0 97 [.int .i64 65536, .func 98 [] [.ptr 1 0 5, .ptr 0 0 1]] [(0, .fix (.cells [.int .i64 lim])), (1, .fix (.cells [.int .i64 num, .int .i64 den, .int .i64 adj, .int .i64 pos, .int .i64 frac]))] 2 = (bif M.parts den != 0 then some (.int .i64 (M.srch (over num den adj frac lim) 65537 0 65536), [(0, .fix (.cells [.int .i64 lim])), (1, .fix (.cells [.int .i64 num, .int .i64 den, .int .i64 adj, .int .i64 pos, .int .i64 frac]))], 2) else none) by kernel_rfl).trans ?_
  rw [hc]; rfl
def m36 : List AV → Sto → Option (Bool × AV × Upd × Nat)
  | [.int .i64 65536, .func 98 [] [.ptr 1 0 5, .ptr 0 0 1]], [(0, .fix (.cells [.int .i64 lim])), (1, .fix (.cells [.int .i64 num, .int .i64 den, .int .i64 adj, .int .i64 pos, .int .i64 frac]))] => some ((M.parts den != 0), .int .i64 (M.srch (over num den adj frac lim) 65537 0 65536), [(0, .fix (.cells [.int .i64 lim])), (1, .fix (.cells [.int .i64 num, .int .i64 den, .int .i64 adj, .int .i64 pos, .int .i64 frac]))], 2)
  | _, _ => none
noncomputable def d34 : Cfg := d33.addR 97 m36
theorem d34_ok : CfgOK d34 := addR_ok d33_ok fun xs s v u nx h => by
  unfold m36 at h; split at h
  · simp only [Option.some.injEq, Prod.mk.injEq] at h; obtain ⟨h1, rfl, rfl, rfl⟩ := h; exact callB_ok d33_ok noCall_ok 0 _ _ _ _ _ _ _ (e36 _ _ _ _ _ _ h1)
  · cases h
namespace M
def mkErr (num den adj pos frac lim : Int) : Int := bif !valid num den adj pos frac then 1 else bif !decide (lim < 0) then (bif decide (lim > 1099511627776) then 2 else 0) else 2
end M
def under (num den adj pos frac lim : Int) (k : Int) : Bool := decide (M.rNd num den adj pos frac k ≤ lim)
namespace M
def mkCnt (num den adj pos frac lim : Int) : Int := bif mkErr num den adj pos frac lim != 0 then 0 else srch (over num den adj frac lim) 65537 0 65536
def rCnt (num den adj pos frac lim : Int) : Int := bif mkErr num den adj pos frac lim != 0 then 0 else grch (under num den adj pos frac lim) 65537 0 65536
end M
theorem e23 (num den adj pos frac lim : Int) : callB d34 noCall 0 90 [.agg [.int .i64 num, .int .i64 den, .int .i64 adj, .int .i64 pos, .int .i64 frac], .int .i64 lim] [] 0 = some (.tuple [.int .i64 (M.mkCnt num den adj pos frac lim), .int .i64 (M.mkErr num den adj pos frac lim)], [], 0) := by
  refine (show callB d34 noCall 0 90 [.agg [.int .i64 num, .int .i64 den, .int .i64 adj, .int .i64 pos, .int .i64 frac], .int .i64 lim] [] 0 = (bif !M.valid num den adj pos frac then some (.tuple [.int .i64 (0), .int .i64 1], [], 0) else bif !decide (lim < 0) then bif decide (lim > 1099511627776) then some (.tuple [.int .i64 (0), .int .i64 2], [], 0) else bif M.parts den != 0 && true then some (.tuple [.int .i64 (M.srch (over num den adj frac lim) 65537 0 65536), .int .i64 0], [], 0) else none else some (.tuple [.int .i64 (0), .int .i64 2], [], 0)) by kernel_rfl).trans ?_
  unfold M.mkCnt M.mkErr
  cases hv : M.valid num den adj pos frac with
  | false => rfl
  | true =>
    have hp := valid_den hv
    cases h1 : decide (lim < 0) with
    | true => rfl
    | false =>
      cases h2 : decide (lim > 1099511627776) with
      | true => rfl
      | false => rw [hp]; rfl
def m23 : List AV → Option (Bool × AV)
  | [.agg [.int .i64 num, .int .i64 den, .int .i64 adj, .int .i64 pos, .int .i64 frac], .int .i64 lim] => some (true, .tuple [.int .i64 (M.mkCnt num den adj pos frac lim), .int .i64 (M.mkErr num den adj pos frac lim)])
  | _ => none
noncomputable def d35 : Cfg := d34.add 90 m23
theorem d35_ok : CfgOK d35 := add_ok d34_ok fun xs v h => by
  unfold m23 at h; split at h
  · cases h; exact pure_of_callB d34_ok noCall_ok (e23 _ _ _ _ _ _) rfl
  · cases h
def gSt (num den adj pos frac lim i j : Int) : St := ⟨[(1, .int .i64 lim), (2, .ptr 0 0 5), (4, .int .i64 0), (5, .int .i64 0), (6, .int .i64 i), (7, .int .i64 j)], [(0, .fix (.cells [.int .i64 num, .int .i64 den, .int .i64 adj, .int .i64 pos, .int .i64 frac]))], 1⟩
def gmid (i j : Int) : Int := M.w64 ((M.w64 (M.w64 (i + j) + 1)).tdiv 2)
theorem gmid_eq {i j : Int} (h1 : 0 ≤ i) (h2 : i ≤ j) (h3 : j ≤ 65536) : gmid i j = (i + j + 1) / 2 := by
  unfold gmid
  rw [w64_in (n := i + j) (by omega) (by omega), w64_in (n := i + j + 1) (by omega) (by omega), Int.tdiv_eq_ediv_of_nonneg (by omega)]
  exact w64_in (by omega) (by omega)
def gL : Nat → St → Option (Bool × Ex × St)
  | 0, ⟨[(1, .int .i64 lim), (2, .ptr 0 0 5), (4, .int .i64 0), (5, .int .i64 0), (6, .int .i64 0), (7, .int .i64 65536)], [(0, .fix (.cells [.int .i64 num, .int .i64 den, .int .i64 adj, .int .i64 pos, .int .i64 frac]))], 1⟩ =>
    some (true, .exit 0, gSt num den adj pos frac lim (M.grch (under num den adj pos frac lim) 65537 0 65536) (M.grch (under num den adj pos frac lim) 65537 0 65536))
  | _, _ => none
noncomputable def d36 : Cfg := d35

theorem d36_ok : CfgOK d36 := d35_ok

def m24 : List AV → Option (Bool × AV)
  | [.agg [.int .i64 num, .int .i64 den, .int .i64 adj, .int .i64 pos, .int .i64 frac], .int .i64 lim] => some (true, .tuple [.int .i64 (M.rCnt num den adj pos frac lim), .int .i64 (M.mkErr num den adj pos frac lim)])
  | _ => none
noncomputable def d37 : Cfg := d36

theorem d37_ok : CfgOK d37 := d36_ok

end Ph
end Go.Proofs.Ytooiechjanmdjaa

/- The models of phases and ratios (by names): plain laws about needs and makes. -/
namespace Go.Proofs.Ytooiechjanmdjaa
namespace Ph
open Am
open Go.Proofs.Ytooiechjanmdjaa.M (w64)
set_option maxRecDepth 100000
set_option linter.unusedVariables false
set_option linter.unusedSimpArgs false
theorem chk_nz {num den adj pos frac n : Int} (h : M.chk num den adj pos frac n ≠ 0) : (M.chk num den adj pos frac n != 0) = true := by simpa using h
theorem chk_z {num den adj pos frac n : Int} (h : M.chk num den adj pos frac n = 0) : (M.chk num den adj pos frac n != 0) = false := by simp [h]

/-- what is needed, without bounds -/
def needOf (p : M.Ph) (n : Int) : Int := if n = 0 then 0 else M.mx (far p (n - 1) / (p.den * 65536) + 2) (far p n / (p.den * 65536))

theorem mx_def (a b : Int) : M.mx a b = if b > a then b else a := rfl

theorem quot_ok {p : M.Ph} (h : PV p) {n : Int} (hn : 0 ≤ n) (hn2 : n ≤ 65536) : 0 ≤ far p n / (p.den * 65536) ∧ far p n / (p.den * 65536) ≤ 60000000000000000 ∧ M.w64 ((M.ahead p.num p.adj p.frac n).tdiv (M.parts p.den)) = far p n / (p.den * 65536) := by
  obtain ⟨⟨a1, a2, a3⟩, ⟨b1, b2⟩, _⟩ := valid_iff.1 h
  obtain ⟨f1, f2⟩ := far_le h hn hn2
  obtain ⟨g1, _⟩ := ahead_eq h hn hn2
  have hq : 0 ≤ far p n / (p.den * 65536) ∧ far p n / (p.den * 65536) ≤ far p n := ⟨Int.ediv_nonneg f1 (by omega), Int.ediv_le_self _ f1⟩
  refine ⟨hq.1, by omega, ?_⟩
  rw [g1, parts_eq a2 b2, Int.tdiv_eq_ediv_of_nonneg f1]
  exact w64_in (by omega) (by omega)

theorem need_ok {p : M.Ph} (h : PV p) {n : Int} (hn : 0 ≤ n) (hn2 : n ≤ 65536) : M.need p.num p.den p.adj p.frac n = needOf p n := by
  unfold M.need needOf
  by_cases h0 : n = 0
  · subst h0; rfl
  · have e : (n == 0) = false := by simpa using h0
    rw [e, if_neg h0, cond_false]
    have hw : M.w64 (n - 1) = n - 1 := w64_in (by omega) (by omega)
    obtain ⟨q1, q2, q3⟩ := quot_ok h (n := n - 1) (by omega) (by omega)
    obtain ⟨r1, r2, r3⟩ := quot_ok h hn hn2
    rw [hw, q3, r3, w64_in (n := far p (n - 1) / (p.den * 65536) + 2) (by omega) (by omega)]

theorem rNd_ok {p : M.Ph} (h : PV p) {n : Int} (hn : 0 ≤ n) (hn2 : n ≤ 65536) : M.rNd p.num p.den p.adj p.pos p.frac n = needOf p n := by
  obtain ⟨_, _, _, ⟨d1, d2⟩, _⟩ := valid_iff.1 h
  unfold M.rNd needOf
  rw [chk_z (chk_ok h hn hn2), cond_false]
  by_cases h0 : n = 0
  · subst h0; rfl
  · have e : (n == 0) = false := by simpa using h0
    rw [e, if_neg h0, cond_false]
    have hw : M.w64 (n - 1) = n - 1 := w64_in (by omega) (by omega)
    obtain ⟨q1, q2, q3⟩ := quot_ok h (n := n - 1) (by omega) (by omega)
    obtain ⟨r1, r2, r3⟩ := quot_ok h hn hn2
    obtain ⟨_, s1, _, _⟩ := at_ok h (n := n - 1) (by omega) (by omega)
    obtain ⟨_, s2, _, _⟩ := at_ok h hn hn2
    rw [hw, s1, s2]
    unfold posOf
    rw [w64_in (n := p.pos + far p (n - 1) / (p.den * 65536) + 2) (by omega) (by omega), mx_def, mx_def]
    generalize far p (n - 1) / (p.den * 65536) = x at *
    generalize far p n / (p.den * 65536) = y at *
    split <;> split <;> first
      | omega
      | (rw [w64_in (by omega) (by omega)]; omega)

theorem rNd_same (num den adj pos frac n : Int) : M.rNd num den adj pos frac n = M.ndV num den adj pos frac n := by
  by_cases h : M.chk num den adj pos frac n = 0
  · obtain ⟨hv, h0, h1⟩ := chk_zero h
    have a := rNd_ok hv h0 h1
    have b := need_ok hv h0 h1
    simp only at a b
    rw [a]; unfold M.ndV; rw [chk_z h, cond_false, b]
  · unfold M.rNd M.ndV; rw [chk_nz h]; rfl

theorem far_mono {p : M.Ph} (h : PV p) {n m : Int} (hnm : n ≤ m) : far p n ≤ far p m := by
  obtain ⟨s1, s2, s3, s4⟩ := step_le h
  unfold far
  rw [Int.mul_assoc, Int.mul_assoc]
  have := Int.mul_le_mul_of_nonneg_right hnm s4
  omega

theorem need_step {p : M.Ph} (h : PV p) {n : Int} (hn : 0 ≤ n) (hn2 : n < 65536) : needOf p n ≤ needOf p (n + 1) := by
  obtain ⟨⟨a1, a2, a3⟩, _⟩ := valid_iff.1 h
  have mono : ∀ {a b : Int}, a ≤ b → far p a / (p.den * 65536) ≤ far p b / (p.den * 65536) := fun hab => Int.ediv_le_ediv (by omega) (far_mono h hab)
  obtain ⟨q1, _, _⟩ := quot_ok h (n := n) (by omega) (by omega)
  unfold needOf
  rw [if_neg (by omega : ¬ n + 1 = 0), show n + 1 - 1 = n by omega]
  have m2 := mono (show n ≤ n + 1 by omega)
  simp only [mx_def]
  by_cases h0 : n = 0
  · rw [if_pos h0]; split <;> omega
  · rw [if_neg h0]
    have m1 := mono (show n - 1 ≤ n by omega)
    split <;> split <;> omega

theorem need_mono {p : M.Ph} (h : PV p) : ∀ (d : Nat) {n : Int}, 0 ≤ n → n + d ≤ 65536 → needOf p n ≤ needOf p (n + d)
  | 0, n, _, _ => by simp
  | d + 1, n, hn, hd => by
    have h1 := need_mono h d hn (by omega)
    have h2 := need_step h (n := n + d) (by omega) (by omega)
    have e : n + ((d + 1 : Nat) : Int) = n + d + 1 := by omega
    rw [e]
    omega

theorem srch_spec (f : Int → Bool) : ∀ (n : Nat) (i j : Int), i ≤ j → (j - i).toNat < n →
    i ≤ M.srch f n i j ∧ M.srch f n i j ≤ j ∧ (M.srch f n i j < j → f (M.srch f n i j) = true) ∧ (i < M.srch f n i j → f (M.srch f n i j - 1) = false)
  | 0, i, j, _, h => by omega
  | n + 1, i, j, h1, h2 => by
    unfold M.srch
    by_cases hij : i < j
    · rw [decide_eq_true hij, cond_true]
      cases hf : f ((i + j) / 2) with
      | true =>
        obtain ⟨a, b, c, d⟩ := srch_spec f n i ((i + j) / 2) (by omega) (by omega)
        refine ⟨a, by simp; omega, fun hlt => ?_, d⟩
        simp only [Bool.not_true, cond_false] at *
        by_cases he : M.srch f n i ((i + j) / 2) < (i + j) / 2
        · exact c he
        · have : M.srch f n i ((i + j) / 2) = (i + j) / 2 := by omega
          rw [this]; exact hf
      | false =>
        obtain ⟨a, b, c, d⟩ := srch_spec f n ((i + j) / 2 + 1) j (by omega) (by omega)
        simp only [Bool.not_false, cond_true] at *
        refine ⟨by omega, b, c, fun hlt => ?_⟩
        by_cases he : (i + j) / 2 + 1 < M.srch f n ((i + j) / 2 + 1) j
        · exact d he
        · have : M.srch f n ((i + j) / 2 + 1) j - 1 = (i + j) / 2 := by omega
          rw [this]; exact hf
    · rw [decide_eq_false hij, cond_false]
      exact ⟨by omega, h1, fun h => by omega, fun h => by omega⟩

theorem grch_spec (f : Int → Bool) : ∀ (n : Nat) (i j : Int), i ≤ j → (j - i).toNat < n →
    i ≤ M.grch f n i j ∧ M.grch f n i j ≤ j ∧ (i < M.grch f n i j → f (M.grch f n i j) = true) ∧ (M.grch f n i j < j → f (M.grch f n i j + 1) = false)
  | 0, i, j, _, h => by omega
  | n + 1, i, j, h1, h2 => by
    unfold M.grch
    by_cases hij : i < j
    · rw [decide_eq_true hij, cond_true]
      cases hf : f ((i + j + 1) / 2) with
      | true =>
        obtain ⟨a, b, c, d⟩ := grch_spec f n ((i + j + 1) / 2) j (by omega) (by omega)
        simp only [cond_true] at *
        refine ⟨by omega, b, fun hlt => ?_, d⟩
        by_cases he : (i + j + 1) / 2 < M.grch f n ((i + j + 1) / 2) j
        · exact c he
        · have : M.grch f n ((i + j + 1) / 2) j = (i + j + 1) / 2 := by omega
          rw [this]; exact hf
      | false =>
        obtain ⟨a, b, c, d⟩ := grch_spec f n i ((i + j + 1) / 2 - 1) (by omega) (by omega)
        simp only [cond_false] at *
        refine ⟨a, by omega, c, fun hlt => ?_⟩
        by_cases he : M.grch f n i ((i + j + 1) / 2 - 1) < (i + j + 1) / 2 - 1
        · exact d he
        · have : M.grch f n i ((i + j + 1) / 2 - 1) + 1 = (i + j + 1) / 2 := by omega
          rw [this]; exact hf
    · rw [decide_eq_false hij, cond_false]
      exact ⟨by omega, h1, fun h => by omega, fun h => by omega⟩

/-- how many frames can be made of lim frames -/
theorem count_spec {p : M.Ph} (h : PV p) (lim : Int) (N : Nat) (hN : 65536 < N) {r : Int} (hr : M.srch (over p.num p.den p.adj p.frac lim) N 0 65536 = r) :
    0 ≤ r ∧ r ≤ 65536 ∧ (r < 65536 → lim < needOf p (r + 1)) ∧ (0 < r → needOf p r ≤ lim) := by
  obtain ⟨a, b, c, d⟩ := srch_spec (over p.num p.den p.adj p.frac lim) N 0 65536 (by omega) (by omega)
  rw [hr] at a b c d
  refine ⟨a, b, fun hlt => ?_, fun hlt => ?_⟩
  · have := c hlt
    unfold over at this
    rw [need_ok h (by omega) (by omega)] at this
    simpa using this
  · have := d hlt
    unfold over at this
    rw [Int.sub_add_cancel, need_ok h (by omega) (by omega)] at this
    simpa using this

theorem same_aux {p : M.Ph} (hv : PV p) (lim : Int) (N : Nat) (hN : 65536 < N) : M.grch (under p.num p.den p.adj p.pos p.frac lim) N 0 65536 = M.srch (over p.num p.den p.adj p.frac lim) N 0 65536 := by
  generalize hr : M.srch (over p.num p.den p.adj p.frac lim) N 0 65536 = r
  obtain ⟨a, b, c, d⟩ := count_spec hv lim N hN hr
  obtain ⟨a', b', c', d'⟩ := grch_spec (under p.num p.den p.adj p.pos p.frac lim) N 0 65536 (by omega) (by omega)
  generalize M.grch (under p.num p.den p.adj p.pos p.frac lim) N 0 65536 = r' at *
  have hu : ∀ k, 0 ≤ k → k ≤ 65536 → under p.num p.den p.adj p.pos p.frac lim k = decide (needOf p k ≤ lim) := fun k h0 h1 => by
    unfold under
    rw [rNd_ok hv h0 h1]
  by_cases h1 : r < r'
  · have x1 := c (by omega)
    have x2 := c' (by omega)
    rw [hu r' (by omega) b'] at x2
    have x2' : needOf p r' ≤ lim := by simpa using x2
    have x3 := need_mono hv (r' - (r + 1)).toNat (n := r + 1) (by omega) (by omega)
    have e : r + 1 + ((r' - (r + 1)).toNat : Int) = r' := by omega
    rw [e] at x3
    omega
  · by_cases h2 : r' < r
    · have x1 := d (by omega)
      have x2 := d' (by omega)
      rw [hu (r' + 1) (by omega) (by omega)] at x2
      have x2' : ¬ needOf p (r' + 1) ≤ lim := by simpa using x2
      have x3 := need_mono hv (r - (r' + 1)).toNat (n := r' + 1) (by omega) (by omega)
      have e : r' + 1 + ((r - (r' + 1)).toNat : Int) = r := by omega
      rw [e] at x3
      omega
    · omega

theorem mkErr_valid {num den adj pos frac lim : Int} (he : (M.mkErr num den adj pos frac lim != 0) = false) : PV ⟨num, den, adj, pos, frac⟩ := by
  unfold PV
  cases hv : M.valid num den adj pos frac with
  | true => rfl
  | false => unfold M.mkErr at he; rw [hv] at he; cases he

theorem cnt_aux (N : Nat) (hN : 65536 < N) (num den adj pos frac lim : Int) :
    (bif M.mkErr num den adj pos frac lim != 0 then (0 : Int) else M.grch (under num den adj pos frac lim) N 0 65536) = (bif M.mkErr num den adj pos frac lim != 0 then (0 : Int) else M.srch (over num den adj frac lim) N 0 65536) := by
  cases he : M.mkErr num den adj pos frac lim != 0 with
  | true => simp only [cond_true]
  | false =>
    simp only [cond_false]
    exact same_aux (mkErr_valid he) lim N hN

theorem rCnt_same (num den adj pos frac lim : Int) : M.rCnt num den adj pos frac lim = M.mkCnt num den adj pos frac lim :=
  cnt_aux 65537 (by decide) num den adj pos frac lim
end Ph
end Go.Proofs.Ytooiechjanmdjaa

/- The models of phases and ratios (by names): models for valid phases. -/
namespace Go.Proofs.Ytooiechjanmdjaa
namespace Ph
open Am
open Go.Proofs.Ytooiechjanmdjaa.M (w64)
set_option maxRecDepth 100000
set_option linter.unusedVariables false
set_option linter.unusedSimpArgs false
namespace M
def okT (num den adj pos frac n : Int) : Bool := valid num den adj pos frac && decide (-4096 ≤ n) && decide (n ≤ 4096)
def okN (num den adj pos frac n : Int) : Bool := valid num den adj pos frac && decide (0 ≤ n) && decide (n ≤ 65536)
def okM (num den adj pos frac n : Int) : Bool := valid num den adj pos frac && decide (0 ≤ n) && decide (n ≤ 1099511627776)
def okA (num den adj pos frac n : Int) : Bool := valid num den adj pos frac && decide (0 ≤ n) && decide (n ≤ 65536) && decide (posOf ⟨num, den, adj, pos, frac⟩ n ≤ 1125899906842624)
end M
def h15 : List AV → Option (Bool × AV)
  | [.agg [.int .i64 num, .int .i64 den, .int .i64 adj, .int .i64 pos, .int .i64 frac], .int .i64 n] => some (M.okT num den adj pos frac n, .tuple [.agg [.int .i64 num, .int .i64 den, .int .i64 n, .int .i64 pos, .int .i64 frac], .int .i64 0])
  | _ => none
noncomputable def g1 : Cfg := d37

theorem cnt_of' {p : M.Ph} (h : PV p) {lim : Int} (h1 : 0 ≤ lim) (h2 : lim ≤ 1099511627776) : M.mkErr p.num p.den p.adj p.pos p.frac lim = 0 := by
  unfold M.mkErr; rw [h, decide_eq_false (by omega), decide_eq_false (by omega)]; rfl
theorem nd_ok' {p : M.Ph} (h : PV p) {n : Int} (hn : 0 ≤ n) (hn2 : n ≤ 65536) : M.ndV p.num p.den p.adj p.pos p.frac n = needOf p n := by
  unfold M.ndV
  rw [chk_z (chk_ok h hn hn2), cond_false, need_ok h hn hn2]
theorem g1_ok : CfgOK g1 := d37_ok

def h21 : List AV → Option (Bool × AV)
  | [.agg [.int .i64 num, .int .i64 den, .int .i64 adj, .int .i64 pos, .int .i64 frac], .int .i64 n] => some (M.okN num den adj pos frac n, .tuple [.int .i64 (needOf ⟨num, den, adj, pos, frac⟩ n), .int .i64 0])
  | _ => none
noncomputable def g2 : Cfg := g1.add 100 h21
theorem g2_ok : CfgOK g2 := add_ok g1_ok fun xs v h => by
  unfold h21 at h; split at h
  · simp only [Option.some.injEq, Prod.mk.injEq] at h
    obtain ⟨h1, rfl⟩ := h
    rename_i num den adj pos frac n
    unfold M.okN at h1
    simp only [Bool.and_eq_true, decide_eq_true_eq] at h1
    have hv : PV ⟨num, den, adj, pos, frac⟩ := h1.1.1
    have a := nd_ok' hv h1.1.2 h1.2
    have b := chk_ok hv h1.1.2 h1.2
    have e := e21 num den adj pos frac n
    simp only at a b
    rw [a, b] at e
    have z : PureOK Try.prog _ _ _ := pure_of_callB d29_ok noCall_ok e rfl
    exact z
  · cases h
def h23 : List AV → Option (Bool × AV)
  | [.agg [.int .i64 num, .int .i64 den, .int .i64 adj, .int .i64 pos, .int .i64 frac], .int .i64 n] => some (M.okM num den adj pos frac n, .tuple [.int .i64 (M.mkCnt num den adj pos frac n), .int .i64 0])
  | _ => none
noncomputable def g3 : Cfg := g2.add 90 h23
theorem g3_ok : CfgOK g3 := add_ok g2_ok fun xs v h => by
  unfold h23 at h; split at h
  · simp only [Option.some.injEq, Prod.mk.injEq] at h
    obtain ⟨h1, rfl⟩ := h
    rename_i num den adj pos frac n
    unfold M.okM at h1
    simp only [Bool.and_eq_true, decide_eq_true_eq] at h1
    have hv : PV ⟨num, den, adj, pos, frac⟩ := h1.1.1
    have b := cnt_of' hv h1.1.2 h1.2
    have e := e23 num den adj pos frac n
    simp only at b
    rw [b] at e
    have z : PureOK Try.prog _ _ _ := pure_of_callB d34_ok noCall_ok e rfl
    exact z
  · cases h
def h11 : List AV → Option (Bool × AV)
  | [.agg [.int .i64 num, .int .i64 den, .int .i64 adj, .int .i64 pos, .int .i64 frac], .int .i64 n] => some (M.okA num den adj pos frac n, .tuple [.agg [.int .i64 num, .int .i64 den, .int .i64 adj, .int .i64 (posOf ⟨num, den, adj, pos, frac⟩ n), .int .i64 (fracOf ⟨num, den, adj, pos, frac⟩ n)], .int .i64 0])
  | _ => none
noncomputable def g4 : Cfg := g3.add 92 h11
theorem g4_ok : CfgOK g4 := add_ok g3_ok fun xs v h => by
  unfold h11 at h; split at h
  · simp only [Option.some.injEq, Prod.mk.injEq] at h
    obtain ⟨h1, rfl⟩ := h
    rename_i num den adj pos frac n
    unfold M.okA at h1
    simp only [Bool.and_eq_true, decide_eq_true_eq] at h1
    have hv : PV ⟨num, den, adj, pos, frac⟩ := h1.1.1.1
    obtain ⟨a, b, _, _⟩ := adv_ok hv h1.1.1.2 h1.1.2 h1.2
    obtain ⟨x, _, y, _⟩ := at_ok hv h1.1.1.2 h1.1.2
    have e := e11 num den adj pos frac n
    have a' : M.adE num den adj pos frac n = 0 := a
    simp only at x y
    rw [a', x, y] at e
    have z : PureOK Try.prog _ _ _ := pure_of_callB c16_ok noCall_ok e rfl
    exact z
  · cases h
end Ph
end Go.Proofs.Ytooiechjanmdjaa
