/- The models of the phase's functions: what is made from bytes. -/
import Derived.Test.YtcpidomblalmpaaPhC
namespace Go.Proofs.Ytcpidomblalmpaa
open Am
set_option maxRecDepth 100000
set_option linter.unusedVariables false
set_option linter.unusedSimpArgs false
namespace M
structure Ph where
  num : Int
  den : Int
  adj : Int
  pos : Int
  frac : Int
def newP (n d : Int) : Ph := ⟨un (nwE n d) n, un (nwE n d) d, 0, 0, 0⟩
def rtP (p : Ph) (n : Int) : Ph := ⟨un (rtE p.num p.den p.adj p.pos p.frac n) p.num, un (rtE p.num p.den p.adj p.pos p.frac n) p.den, un (rtE p.num p.den p.adj p.pos p.frac n) n, un (rtE p.num p.den p.adj p.pos p.frac n) p.pos, un (rtE p.num p.den p.adj p.pos p.frac n) p.frac⟩
def rAE (p : Ph) (n : Int) : Int := rAdE p.num p.den p.adj p.pos p.frac n
def rAP (p : Ph) (n : Int) : Ph := ⟨un (rAE p n) p.num, un (rAE p n) p.den, un (rAE p n) p.adj, un (rAE p n) (rAtP p.num p.den p.adj p.pos p.frac n), un (rAE p n) (rAtF p.num p.den p.adj p.pos p.frac n)⟩
def aE (p : Ph) (n : Int) : Int := adE p.num p.den p.adj p.pos p.frac n
def aP (p : Ph) (n : Int) : Ph := ⟨un (aE p n) p.num, un (aE p n) p.den, un (aE p n) p.adj, un (aE p n) (atP p.num p.den p.adj p.pos p.frac n), un (aE p n) (atF p.num p.den p.adj p.pos p.frac n)⟩
def rates : List Int := [48000, 48000, 44100, 96000, 8000, 32000, 192000, 1000, 768000, 47999]
def tunes : List Int := [0, 0, 1, -1, 4096, -4096, 100]
def baseA (l : List Int) : Int := rates.getD (nextV 10 l).toNat 0
def baseB (l : List Int) : Int := rates.getD (nextV 10 (nextL 10 l)).toNat 0
def baseN (l : List Int) : Int := mkN (baseA l) (baseB l)
def baseD (l : List Int) : Int := mkD (baseA l) (baseB l)
def baseL (l : List Int) : List Int := nextL 10 (nextL 10 l)
/-- the phase before its last advance -/
def q1 (l : List Int) : Ph := rtP (newP (baseN l) (baseD l)) (tunes.getD (nextV 7 (baseL l)).toNat 0)
def qn (l : List Int) : Int := nextV 60 (nextL 7 (baseL l))
def phase (l : List Int) : Ph := bif rAE (q1 l) (qn l) == 0 then rAP (q1 l) (qn l) else q1 l
def phaseL (l : List Int) : List Int := nextL 60 (nextL 7 (baseL l))
def made (b : List Int) : Ph := phase (b.take 300)
def byt (l : List Int) : Bool := l.all fun x => decide (0 ≤ x) && decide (x ≤ 255)
end M
theorem byt_drop {l : List Int} (h : M.byt l = true) : M.byt (l.drop 1) = true := by
  cases l with
  | nil => exact h
  | cons x l => simp only [M.byt, List.all_cons, Bool.and_eq_true] at h; exact h.2
theorem byt_next {n : Int} {l : List Int} (h : M.byt l = true) : M.byt (M.nextL n l) = true := by
  unfold M.nextL
  cases (!((l.length : Int) == 0)) <;> cases decide (n ≤ 1) <;> first | exact h | exact byt_drop h
theorem next_range {n : Int} {l : List Int} (hn : 0 < n) (h : M.byt l = true) : 0 ≤ M.nextV n l ∧ M.nextV n l < n := by
  unfold M.nextV
  cases hl : (!((l.length : Int) == 0)) with
  | false => simp; omega
  | true =>
    cases h1 : decide (n ≤ 1) with
    | true => simp; omega
    | false =>
      cases l with
      | nil => simp at hl
      | cons x l =>
        simp only [M.byt, List.all_cons, Bool.and_eq_true, decide_eq_true_eq] at h
        have hx := h.1
        have hw : IntKind.i64.wrap x = x := w64_in (by omega) (by omega)
        simp only [cond_true, cond_false, List.getD_cons_zero, hw]
        exact ⟨Int.tmod_nonneg _ hx.1, Int.tmod_lt_of_pos _ hn⟩

theorem e39 (n : Int) (l : List Int) : callB c21 noCall 0 39 [.ptr 0 0 1, .int .i64 n] [(0, .fix (.cells [.vi .u8 l]))] 1 = some (.int .i64 (M.nextV n l), [(0, .fix (.cells [.vi .u8 (M.nextL n l)]))], 1) := by
  refine (show callB c21 noCall 0 39 [.ptr 0 0 1, .int .i64 n] [(0, .fix (.cells [.vi .u8 l]))] 1 = (bif !((l.length : Int) == 0) then bif decide (n ≤ 1) then some (.int .i64 0, [(0, .fix (.cells [.vi .u8 l]))], 1) else bif true && decide (0 < (l.length : Int)) && true then bif true && decide (1 ≤ (l.length : Int)) && true then bif n != 0 && true then some (.int .i64 ((IntKind.i64.wrap (l.getD 0 0)).tmod n), [(0, .fix (.cells [.vi .u8 (l.drop 1)]))], 1) else none else none else none else some (.int .i64 0, [(0, .fix (.cells [.vi .u8 l]))], 1)) by kernel_rfl).trans ?_
  unfold M.nextV M.nextL
  refine condCases (fun h => ?_) (fun h => ?_)
  · have hl : 0 < l.length := by
      simp at h
      exact List.length_pos_iff.2 h
    refine condCases (fun h2 => ?_) (fun h2 => ?_)
    · simp only [h, h2, cond_true]
    · have hn : (n != 0) = true := by
        simp at h2 ⊢; omega
      have h3 : decide (0 < (l.length : Int)) = true := by simp only [decide_eq_true_eq]; omega
      have h4 : decide (1 ≤ (l.length : Int)) = true := by
        simp only [decide_eq_true_eq]; omega
      simp only [h, h2, h3, h4, hn, cond_true, cond_false, Bool.and_true]
  · simp only [h, cond_false]
def m39 : List AV → Sto → Option (Bool × AV × Upd × Nat)
  | [.ptr 0 0 1, .int .i64 n], [(0, .fix (.cells [.vi .u8 l]))] => some (true, .int .i64 (M.nextV n l), [(0, .fix (.cells [.vi .u8 (M.nextL n l)]))], 1)
  | _, _ => none
noncomputable def c22 : Cfg := c21.addR 39 m39
theorem c22_ok : CfgOK c22 := addR_ok c21_ok fun xs s v u nx h => by
  unfold m39 at h; split at h
  · cases h; exact callB_ok c21_ok noCall_ok 0 _ _ _ _ _ _ _ (e39 _ _)
  · cases h
theorem e38 (l : List Int) (hc : M.byt l = true) : callB c22 noCall 0 38 [.ptr 0 0 1] [(0, .fix (.cells [.vi .u8 l]))] 1 = some (.agg [.int .i64 (M.baseN l), .int .i64 (M.baseD l)], [(0, .fix (.cells [.vi .u8 (M.baseL l)]))], 1) := by
  refine (show callB c22 noCall 0 38 [.ptr 0 0 1] [(0, .fix (.cells [.vi .u8 l]))] 1 = (bif decide (0 ≤ M.nextV 10 (l)) && decide (M.nextV 10 (l) < 10) && true then bif decide (0 ≤ M.nextV 10 (M.nextL 10 l)) && decide (M.nextV 10 (M.nextL 10 l) < 10) && true then some (.agg [.int .i64 (M.baseN l), .int .i64 (M.baseD l)], [(0, .fix (.cells [.vi .u8 (M.baseL l)]))], 1) else none else none) by kernel_rfl).trans ?_
  have h1 := next_range (n := 10) (by omega) hc
  have h2 := next_range (n := 10) (by omega) (byt_next (n := 10) hc)
  simp only [decide_eq_true h1.1, decide_eq_true h1.2, decide_eq_true h2.1, decide_eq_true h2.2, Bool.and_true, cond_true]
def m38 : List AV → Sto → Option (Bool × AV × Upd × Nat)
  | [.ptr 0 0 1], [(0, .fix (.cells [.vi .u8 l]))] => some (M.byt l, .agg [.int .i64 (M.baseN l), .int .i64 (M.baseD l)], [(0, .fix (.cells [.vi .u8 (M.baseL l)]))], 1)
  | _, _ => none
noncomputable def c23 : Cfg := c22.addR 38 m38
theorem c23_ok : CfgOK c23 := addR_ok c22_ok fun xs s v u nx h => by
  unfold m38 at h; split at h
  · simp only [Option.some.injEq, Prod.mk.injEq] at h; obtain ⟨h1, rfl, rfl, rfl⟩ := h; exact callB_ok c22_ok noCall_ok 0 _ _ _ _ _ _ _ (e38 _ h1)
  · cases h
theorem e25 (l : List Int) (hc : M.byt l = true) : callB c23 noCall 0 25 [.ptr 0 0 1] [(0, .fix (.cells [.vi .u8 l]))] 1 = some (.agg [.int .i64 (M.phase l).num, .int .i64 (M.phase l).den, .int .i64 (M.phase l).adj, .int .i64 (M.phase l).pos, .int .i64 (M.phase l).frac], [(0, .fix (.cells [.vi .u8 (M.phaseL l)]))], 1) := by
  refine (show callB c23 noCall 0 25 [.ptr 0 0 1] [(0, .fix (.cells [.vi .u8 l]))] 1 = (bif M.byt l && true then bif decide (0 ≤ M.nextV 7 (M.baseL l)) && decide (M.nextV 7 (M.baseL l) < 7) && true then (bif M.rAE (M.q1 l) (M.qn l) == 0 then some (.agg [.int .i64 (M.rAP (M.q1 l) (M.qn l)).num, .int .i64 (M.rAP (M.q1 l) (M.qn l)).den, .int .i64 (M.rAP (M.q1 l) (M.qn l)).adj, .int .i64 (M.rAP (M.q1 l) (M.qn l)).pos, .int .i64 (M.rAP (M.q1 l) (M.qn l)).frac], [(0, .fix (.cells [.vi .u8 (M.phaseL l)]))], 1) else some (.agg [.int .i64 (M.q1 l).num, .int .i64 (M.q1 l).den, .int .i64 (M.q1 l).adj, .int .i64 (M.q1 l).pos, .int .i64 (M.q1 l).frac], [(0, .fix (.cells [.vi .u8 (M.phaseL l)]))], 1)) else none else none) by kernel_rfl).trans ?_
  have hb : M.byt (M.baseL l) = true := byt_next (n := 10) (byt_next (n := 10) hc)
  have h1 := next_range (n := 7) (by omega) hb
  simp only [hc, decide_eq_true h1.1, decide_eq_true h1.2, Bool.and_true, cond_true]
  unfold M.phase
  cases (M.rAE (M.q1 l) (M.qn l) == 0) <;> rfl
def m25 : List AV → Sto → Option (Bool × AV × Upd × Nat)
  | [.ptr 0 0 1], [(0, .fix (.cells [.vi .u8 l]))] => some (M.byt l, .agg [.int .i64 (M.phase l).num, .int .i64 (M.phase l).den, .int .i64 (M.phase l).adj, .int .i64 (M.phase l).pos, .int .i64 (M.phase l).frac], [(0, .fix (.cells [.vi .u8 (M.phaseL l)]))], 1)
  | _, _ => none
noncomputable def c24 : Cfg := c23.addR 25 m25
theorem c24_ok : CfgOK c24 := addR_ok c23_ok fun xs s v u nx h => by
  unfold m25 at h; split at h
  · simp only [Option.some.injEq, Prod.mk.injEq] at h; obtain ⟨h1, rfl, rfl, rfl⟩ := h; exact callB_ok c23_ok noCall_ok 0 _ _ _ _ _ _ _ (e25 _ h1)
  · cases h
theorem e26 (l : List Int) : callB c24 noCall 0 26 [.vi .u8 l] [] 0 = some (.ptr 0 0 1, [(0, .fix (.cells [.vi .u8 (l.take 300)]))], 1) := by
  refine (show callB c24 noCall 0 26 [.vi .u8 l] [] 0 = (bif decide (0 ≤ (bif false then if (300 : Int) > (l.length : Int) then 300 else (l.length : Int) else if (300 : Int) < (l.length : Int) then 300 else (l.length : Int))) && decide ((bif false then if (300 : Int) > (l.length : Int) then 300 else (l.length : Int) else if (300 : Int) < (l.length : Int) then 300 else (l.length : Int)) ≤ (l.length : Int)) && true then some (.ptr 0 0 1, [(0, .fix (.cells [.vi .u8 (l.take ((if (300 : Int) < (l.length : Int) then 300 else (l.length : Int)).toNat * 1))]))], 1) else none) by kernel_rfl).trans ?_
  have h1 : 0 ≤ (if (300 : Int) < (l.length : Int) then 300 else (l.length : Int)) ∧ (if (300 : Int) < (l.length : Int) then 300 else (l.length : Int)) ≤ (l.length : Int) := by split <;> omega
  have h2 : l.take ((if (300 : Int) < (l.length : Int) then 300 else (l.length : Int)).toNat * 1) = l.take 300 := by
    by_cases h : (300 : Int) < (l.length : Int)
    · rw [if_pos h]; rfl
    · rw [if_neg h, List.take_of_length_le (by omega), List.take_of_length_le (by omega)]
  simp only [cond_false, decide_eq_true h1.1, decide_eq_true h1.2, Bool.and_true, cond_true, h2]
def m26 : List AV → Sto → Option (Bool × AV × Upd × Nat)
  | [.vi .u8 l], [] => some (true, .ptr 0 0 1, [(0, .fix (.cells [.vi .u8 (l.take 300)]))], 1)
  | _, _ => none
noncomputable def c25 : Cfg := c24.addR 26 m26
theorem c25_ok : CfgOK c25 := addR_ok c24_ok fun xs s v u nx h => by
  unfold m26 at h; split at h
  · cases h; exact callB_ok c24_ok noCall_ok 0 _ _ _ _ _ _ _ (e26 _)
  · cases h
end Go.Proofs.Ytcpidomblalmpaa
