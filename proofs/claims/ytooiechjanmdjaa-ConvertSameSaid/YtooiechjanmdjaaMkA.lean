/- The models of what makes inputs: dice. -/
import Derived.Test.YtooiechjanmdjaaKp
namespace Go.Proofs.Ytooiechjanmdjaa
open Am
set_option maxRecDepth 100000
set_option linter.unusedVariables false
set_option linter.unusedSimpArgs false
namespace M
def nextV (n : Int) (l : List Int) : Int := bif !((l.length : Int) == 0) then (bif decide (n ≤ 1) then 0 else (IntKind.i64.wrap (l.getD 0 0)).tmod n) else 0
def nextL (n : Int) (l : List Int) : List Int := bif !((l.length : Int) == 0) then (bif decide (n ≤ 1) then l else l.drop 1) else l
def byt (l : List Int) : Bool := l.all fun x => decide (0 ≤ x) && decide (x ≤ 255)
end M
theorem byt_drop {l : List Int} (h : M.byt l = true) : M.byt (l.drop 1) = true := by
  cases l with
  | nil => exact h
  | cons x l => simp only [M.byt, List.all_cons, Bool.and_eq_true] at h; exact h.2
theorem byt_take {l : List Int} (n : Nat) (h : M.byt l = true) : M.byt (l.take n) = true := by
  simp only [M.byt, List.all_eq_true] at h ⊢
  exact fun x hx => h x (List.mem_of_mem_take hx)
theorem byt_next {n : Int} {l : List Int} (h : M.byt l = true) : M.byt (M.nextL n l) = true := by
  unfold M.nextL
  cases (!((l.length : Int) == 0)) <;> cases decide (n ≤ 1) <;> first | exact h | exact byt_drop h
theorem next_range {n : Int} {l : List Int} (hn : 0 < n) (h : M.byt l = true) : 0 ≤ M.nextV n l ∧ M.nextV n l < n := by
  unfold M.nextV
  cases hl : (!((l.length : Int) == 0)) with
  | false => simp; omega
  | true =>
    cases h1 : decide (n ≤ 1) with
    | true => simp; omega
    | false =>
      cases l with
      | nil => simp at hl
      | cons x l =>
        simp only [M.byt, List.all_cons, Bool.and_eq_true, decide_eq_true_eq] at h
        have hx := h.1
        have hw : IntKind.i64.wrap x = x := w64_in (by omega) (by omega)
        simp only [cond_true, cond_false, List.getD_cons_zero, hw]
        exact ⟨Int.tmod_nonneg _ hx.1, Int.tmod_lt_of_pos _ hn⟩

theorem e_Next (n : Int) (l : List Int) : callB k0 noCall 0 23 [.ptr 0 0 1, .int .i64 n] [(0, .fix (.cells [.vi .u8 l]))] 1 = some (.int .i64 (M.nextV n l), [(0, .fix (.cells [.vi .u8 (M.nextL n l)]))], 1) := by
  refine (show callB k0 noCall 0 23 [.ptr 0 0 1, .int .i64 n] [(0, .fix (.cells [.vi .u8 l]))] 1 = (bif !((l.length : Int) == 0) then bif decide (n ≤ 1) then some (.int .i64 0, [(0, .fix (.cells [.vi .u8 l]))], 1) else bif true && decide (0 < (l.length : Int)) && true then bif true && decide (1 ≤ (l.length : Int)) && true then bif n != 0 && true then some (.int .i64 ((IntKind.i64.wrap (l.getD 0 0)).tmod n), [(0, .fix (.cells [.vi .u8 (l.drop 1)]))], 1) else none else none else none else some (.int .i64 0, [(0, .fix (.cells [.vi .u8 l]))], 1)) by kernel_rfl).trans ?_
  unfold M.nextV M.nextL
  refine condCases (fun h => ?_) (fun h => ?_)
  · have hl : 0 < l.length := by
      simp at h
      exact List.length_pos_iff.2 h
    refine condCases (fun h2 => ?_) (fun h2 => ?_)
    · simp only [h, h2, cond_true]
    · have hn : (n != 0) = true := by
        simp at h2 ⊢; omega
      have h3 : decide (0 < (l.length : Int)) = true := by simp only [decide_eq_true_eq]; omega
      have h4 : decide (1 ≤ (l.length : Int)) = true := by
        simp only [decide_eq_true_eq]; omega
      simp only [h, h2, h3, h4, hn, cond_true, cond_false, Bool.and_true]
  · simp only [h, cond_false]
def m_Next : List AV → Sto → Option (Bool × AV × Upd × Nat)
  | [.ptr 0 0 1, .int .i64 n], [(0, .fix (.cells [.vi .u8 l]))] => some (true, .int .i64 (M.nextV n l), [(0, .fix (.cells [.vi .u8 (M.nextL n l)]))], 1)
  | _, _ => none
noncomputable def k1 : Cfg := k0.addR 23 m_Next
theorem k1_ok : CfgOK k1 := addR_ok k0_ok fun xs s v u nx h => by
  unfold m_Next at h; split at h
  · cases h; exact callB_ok k0_ok noCall_ok 0 _ _ _ _ _ _ _ (e_Next _ _)
  · cases h

theorem e_New (l : List Int) : callB k1 noCall 0 10 [.vi .u8 l] [] 0 = some (.ptr 0 0 1, [(0, .fix (.cells [.vi .u8 (l.take 300)]))], 1) := by
  refine (show callB k1 noCall 0 10 [.vi .u8 l] [] 0 = (bif decide (0 ≤ (bif false then if (300 : Int) > (l.length : Int) then 300 else (l.length : Int) else if (300 : Int) < (l.length : Int) then 300 else (l.length : Int))) && decide ((bif false then if (300 : Int) > (l.length : Int) then 300 else (l.length : Int) else if (300 : Int) < (l.length : Int) then 300 else (l.length : Int)) ≤ (l.length : Int)) && true then some (.ptr 0 0 1, [(0, .fix (.cells [.vi .u8 (l.take ((bif false then if (300 : Int) > (l.length : Int) then 300 else (l.length : Int) else if (300 : Int) < (l.length : Int) then 300 else (l.length : Int)).toNat * 1))]))], 1) else none) by kernel_rfl).trans ?_
  have h1 : 0 ≤ (if (300 : Int) < (l.length : Int) then 300 else (l.length : Int)) ∧ (if (300 : Int) < (l.length : Int) then 300 else (l.length : Int)) ≤ (l.length : Int) := by split <;> omega
  have h2 : l.take ((if (300 : Int) < (l.length : Int) then 300 else (l.length : Int)).toNat * 1) = l.take 300 := by
    by_cases h : (300 : Int) < (l.length : Int)
    · rw [if_pos h]; rfl
    · rw [if_neg h, List.take_of_length_le (by omega), List.take_of_length_le (by omega)]
  simp only [cond_false, decide_eq_true h1.1, decide_eq_true h1.2, Bool.and_true, cond_true, h2]
def m_New : List AV → Sto → Option (Bool × AV × Upd × Nat)
  | [.vi .u8 l], [] => some (true, .ptr 0 0 1, [(0, .fix (.cells [.vi .u8 (l.take 300)]))], 1)
  | _, _ => none
noncomputable def k2 : Cfg := k1.addR 10 m_New
theorem k2_ok : CfgOK k2 := addR_ok k1_ok fun xs s v u nx h => by
  unfold m_New at h; split at h
  · cases h; exact callB_ok k1_ok noCall_ok 0 _ _ _ _ _ _ _ (e_New _)
  · cases h

namespace M
def smpV (l : List Int) : Int :=
  bif nextV 8 l == 0 then 0 else bif nextV 8 l == 1 then 8388607 else bif nextV 8 l == 2 then -8388608 else bif nextV 8 l == 3 then w32 (w32 (nextV 256 (nextL 8 l)) - 128)
  else w32 (w32 (w32 (w32 (w32 (nextV 256 (nextL 8 l)) * 65536) - 8388608) + w32 (w32 (nextV 256 (nextL 256 (nextL 8 l))) * 256)) + w32 (nextV 256 (nextL 256 (nextL 256 (nextL 8 l)))))
def smpL (l : List Int) : List Int :=
  bif nextV 8 l == 0 then nextL 8 l else bif nextV 8 l == 1 then nextL 8 l else bif nextV 8 l == 2 then nextL 8 l else bif nextV 8 l == 3 then nextL 256 (nextL 8 l) else nextL 256 (nextL 256 (nextL 256 (nextL 8 l)))
/-- so many samples, and the numbers behind them -/
def blkD : Nat → List Int → List Int
  | 0, _ => []
  | n + 1, l => smpV l :: blkD n (smpL l)
def blkL : Nat → List Int → List Int
  | 0, l => l
  | n + 1, l => blkL n (smpL l)
end M
theorem smp_ok {l : List Int} (h : M.byt l = true) : -8388608 ≤ M.smpV l ∧ M.smpV l ≤ 8388607 ∧ M.byt (M.smpL l) = true := by
  have h1 : M.byt (M.nextL 8 l) = true := byt_next h
  have h2 : M.byt (M.nextL 256 (M.nextL 8 l)) = true := byt_next h1
  have h3 : M.byt (M.nextL 256 (M.nextL 256 (M.nextL 8 l))) = true := byt_next h2
  have h4 : M.byt (M.nextL 256 (M.nextL 256 (M.nextL 256 (M.nextL 8 l)))) = true := byt_next h3
  have r1 := next_range (n := 256) (by omega) h1
  have r2 := next_range (n := 256) (by omega) h2
  have r3 := next_range (n := 256) (by omega) h3
  unfold M.smpV M.smpL
  cases (M.nextV 8 l == 0) with
  | true => exact ⟨by simp, by simp, h1⟩
  | false => cases (M.nextV 8 l == 1) with
    | true => exact ⟨by simp, by simp, h1⟩
    | false => cases (M.nextV 8 l == 2) with
      | true => exact ⟨by simp, by simp, h1⟩
      | false => cases (M.nextV 8 l == 3) with
        | true =>
          simp only [cond_true, cond_false]
          rw [w32_in (n := M.nextV 256 (M.nextL 8 l)) (by omega) (by omega), w32_in (by omega) (by omega)]
          exact ⟨by omega, by omega, h2⟩
        | false =>
          simp only [cond_false]
          generalize M.nextV 256 (M.nextL 8 l) = a at r1
          generalize M.nextV 256 (M.nextL 256 (M.nextL 8 l)) = b at r2
          generalize M.nextV 256 (M.nextL 256 (M.nextL 256 (M.nextL 8 l))) = c at r3
          rw [w32_in (n := a) (by omega) (by omega), w32_in (n := b) (by omega) (by omega), w32_in (n := c) (by omega) (by omega), w32_in (n := a * 65536) (by omega) (by omega), w32_in (n := b * 256) (by omega) (by omega),
            w32_in (n := a * 65536 - 8388608) (by omega) (by omega), w32_in (n := a * 65536 - 8388608 + b * 256) (by omega) (by omega), w32_in (n := a * 65536 - 8388608 + b * 256 + c) (by omega) (by omega)]
          exact ⟨by omega, by omega, h4⟩

def m_Smp : List AV → Sto → Option (Bool × AV × Upd × Nat)
  | [.ptr 0 0 1], [(0, .fix (.cells [.vi .u8 l]))] => some (true, .int .i32 (M.smpV l), [(0, .fix (.cells [.vi .u8 (M.smpL l)]))], 1)
  | _, _ => none
noncomputable def k3 : Cfg := k2

theorem k3_ok : CfgOK k3 := k2_ok

theorem blkD_snoc : ∀ (i : Nat) (l : List Int), M.blkD (i + 1) l = M.blkD i l ++ [M.smpV (M.blkL i l)]
  | 0, l => rfl
  | i + 1, l => by
    have := blkD_snoc i (M.smpL l)
    simp only [M.blkD, M.blkL, List.cons_append] at this ⊢
    rw [this]
theorem blkL_snoc : ∀ (i : Nat) (l : List Int), M.blkL (i + 1) l = M.smpL (M.blkL i l)
  | 0, l => rfl
  | i + 1, l => by
    have := blkL_snoc i (M.smpL l)
    simp only [M.blkL] at this ⊢
    rw [this]
theorem blkD_length : ∀ (i : Nat) (l : List Int), (M.blkD i l).length = i
  | 0, l => rfl
  | i + 1, l => by simp [M.blkD, blkD_length i]
theorem blk_ok : ∀ (i : Nat) {l : List Int}, M.byt l = true → (∀ s ∈ M.blkD i l, -8388608 ≤ s ∧ s ≤ 8388607) ∧ M.byt (M.blkL i l) = true
  | 0, l, h => ⟨by simp [M.blkD], h⟩
  | i + 1, l, h => by
    obtain ⟨h1, h2, h3⟩ := smp_ok h
    obtain ⟨g1, g2⟩ := blk_ok i h3
    refine ⟨fun s hs => ?_, g2⟩
    simp only [M.blkD, List.mem_cons] at hs
    rcases hs with rfl | hs
    · exact ⟨h1, h2⟩
    · exact g1 s hs
def bSt0 (c n i : Int) (l : List Int) : St := ⟨[(0, .ptr 0 0 1), (1, .int .i64 c), (2, .int .i64 n), (6, .ptr 1 0 2), (7, .ptr 2 0 2), (8, .int .i64 i)], [(2, .fix (.cells [.int .i64 c, .nilsl])), (1, .fix (.cells [.int .i64 0, .nilsl])), (0, .fix (.cells [.vi .u8 l]))], 3⟩
def bSt1 (c n i : Int) (a l : List Int) : St := ⟨[(0, .ptr 0 0 1), (1, .int .i64 c), (2, .int .i64 n), (6, .ptr 1 0 2), (7, .ptr 2 0 2), (8, .int .i64 i)], [(3, .grow 1 0 (.ints .i32 a)), (2, .fix (.cells [.int .i64 c, .gsl 3 0])), (1, .fix (.cells [.int .i64 0, .nilsl])), (0, .fix (.cells [.vi .u8 l]))], 4⟩
def bHead (c n : Int) (l : List Int) : Nat → St
  | 0 => bSt0 c n 0 l
  | i + 1 => bSt1 c n (i + 1 : Nat) (M.blkD (i + 1) l) (M.blkL (i + 1) l)
namespace M
/-- a block's size that is made -/
def okB (c n : Int) : Bool := decide (1 ≤ c) && decide (c ≤ 64) && decide (1 ≤ n) && decide (n ≤ 64)
def bN (c n : Int) : Nat := (c * n).toNat
end M
theorem bN_ok {c n : Int} (h : M.okB c n = true) : ((M.bN c n : Nat) : Int) = c * n ∧ 1 ≤ M.bN c n ∧ M.bN c n ≤ 4096 ∧ M.w64 (c * n) = (M.bN c n : Nat) := by
  unfold M.okB at h
  simp only [Bool.and_eq_true, decide_eq_true_eq] at h
  obtain ⟨⟨⟨h1, h2⟩, h3⟩, h4⟩ := h
  have a : 1 ≤ c * n := by
    have := Int.mul_le_mul h1 h3 (by omega) (by omega)
    omega
  have b : c * n ≤ 4096 := by
    have := Int.mul_le_mul h2 h4 (by omega) (by omega)
    omega
  unfold M.bN
  refine ⟨by omega, by omega, by omega, ?_⟩
  rw [w64_in (by omega) (by omega)]; omega

def l_Blk : Nat → St → Option (Bool × Ex × St)
  | 1, ⟨[(0, .ptr 0 0 1), (1, .int .i64 c), (2, .int .i64 n), (6, .ptr 1 0 2), (7, .ptr 2 0 2), (8, .int .i64 0)], [(2, .fix (.cells [.int .i64 c_, .nilsl])), (1, .fix (.cells [.int .i64 0, .nilsl])), (0, .fix (.cells [.vi .u8 l]))], 3⟩ => some (decide (c_ = c) && M.okB c n, .exit 0, bSt1 c n (M.bN c n : Nat) (M.blkD (M.bN c n) l) (M.blkL (M.bN c n) l))
  | _, _ => none
noncomputable def k4 : Cfg := k3

theorem k4_ok : CfgOK k4 := k3_ok

def m_Block : List AV → Sto → Option (Bool × AV × Upd × Nat)
  | [.ptr 0 0 1, .int .i64 c, .int .i64 n], [(0, .fix (.cells [.vi .u8 l]))] => some (M.okB c n, .agg [.int .i64 c, .vi .i32 (M.blkD (M.bN c n) l)], [(0, .fix (.cells [.vi .u8 (M.blkL (M.bN c n) l)]))], 1)
  | _, _ => none
noncomputable def k5 : Cfg := k4

theorem k5_ok : CfgOK k5 := k4_ok

end Go.Proofs.Ytooiechjanmdjaa
