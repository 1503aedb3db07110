/- The models of matrices: blocks pass a matrix, the reference. -/
import Derived.Test.YtooiechjanmdjaaMaC
namespace Go.Proofs.Ytooiechjanmdjaa
open Am
set_option maxRecDepth 100000
set_option linter.unusedVariables false
set_option linter.unusedSimpArgs false

namespace M
def okRef (n m : Int) (co l : List Int) (p : Int) : Bool := okApp n m co l && decide (0 ≤ p) && decide (p + n ≤ l.length)
def okRef1 (n m : Int) (co l : List Int) (p r : Int) : Bool := okRef n m co l p && decide (0 ≤ r) && decide (r < m)
end M
theorem okRef_iff {n m : Int} {co l : List Int} {p : Int} (h : M.okRef n m co l p = true) : M.okApp n m co l = true ∧ 0 ≤ p ∧ p + n ≤ l.length ∧ M.okRow n m (M.rowsL n m co) co l p = true := by
  unfold M.okRef at h
  simp only [Bool.and_eq_true, decide_eq_true_eq] at h
  exact ⟨h.1.1, h.1.2, h.2, okRow_of h.1.1 h.1.2 h.2⟩
theorem getD_row {n : Int} {co : List Int} {j i : Nat} (hi : (i : Int) < n) : (M.row n co j).getD i 0 = co.getD (((j : Int) * n + i).toNat) 0 := by
  obtain ⟨k, rfl⟩ := Int.eq_ofNat_of_zero_le (show 0 ≤ n by omega)
  unfold M.row
  rw [show ((j : Int) * (k : Int) + i).toNat = j * k + i by rw [← Int.natCast_mul]; omega]
  simp only [List.getD_eq_getElem?_getD, Int.toNat_natCast]
  rw [List.getElem?_take_of_lt (by omega), List.getElem?_drop]
theorem getD_cut {n p : Int} {l : List Int} {i : Nat} (h0 : 0 ≤ p) (hi : (i : Int) < n) : (M.cutN l p (p + n)).getD i 0 = l.getD ((p + i).toNat) 0 := by
  unfold M.cutN
  simp only [List.getD_eq_getElem?_getD]
  rw [List.getElem?_take_of_lt (by omega), List.getElem?_drop, show p.toNat * 1 + i = (p + i).toNat by omega]
theorem ref_next {n m : Int} {co l : List Int} {p : Int} {j : Nat} (h : M.okRef1 n m co l p j = true) (i : Nat) (hi : (i : Int) < n) :
    (decide (0 ≤ M.w64 (M.w64 ((j : Int) * n) + i)) && decide (M.w64 (M.w64 ((j : Int) * n) + i) < co.length) && true) = true ∧ (decide (0 ≤ M.w64 (p + i)) && decide (M.w64 (p + i) < l.length) && true) = true ∧
    M.w64 (16384 + M.dotZ i (M.pr (M.row n co j) (M.cutN l p (p + n))) + M.w64 (co.getD (M.w64 (M.w64 ((j : Int) * n) + i)).toNat 0 * M.w64 (l.getD (M.w64 (p + i)).toNat 0))) = 16384 + M.dotZ (i + 1) (M.pr (M.row n co j) (M.cutN l p (p + n))) := by
  unfold M.okRef1 at h
  simp only [Bool.and_eq_true, decide_eq_true_eq] at h
  obtain ⟨⟨hk, h2⟩, h3⟩ := h
  obtain ⟨hA, p0, p1, hR⟩ := okRef_iff hk
  obtain ⟨n1, n2, m1, m2, hl, hc, hs, hz⟩ := okApp_iff hA
  have hd := ok_dot hR (j := j) h3
  have e1 := cut_len (n := n) (by omega) p0 p1
  have a0 : 0 ≤ (j : Int) * n := Int.mul_nonneg (by omega) (by omega)
  have a1 : ((j + 1 : Nat) : Int) * n ≤ m * n := Int.mul_le_mul_of_nonneg_right (by omega) (by omega)
  have a2 : m * n ≤ 8 * 8 := Int.mul_le_mul (by omega) (by omega) (by omega) (by omega)
  have a3 : ((j + 1 : Nat) : Int) * n = j * n + n := by rw [show ((j + 1 : Nat) : Int) = (j : Int) + 1 by omega, Int.add_mul, Int.one_mul]
  rw [Int.mul_comm n m] at hl
  rw [w64_in (n := (j : Int) * n) (by omega) (by omega), w64_in (n := (j : Int) * n + i) (by omega) (by omega), w64_in (n := p + i) (by omega) (by omega)]
  refine ⟨by rw [decide_eq_true (by omega), decide_eq_true (by omega)]; rfl, by rw [decide_eq_true (by omega), decide_eq_true (by omega)]; rfl, ?_⟩
  rw [← getD_row hi, ← getD_cut p0 hi]
  have hx : i < (M.cutN l p (p + n)).length := by omega
  have b1 := dot_small hd i (by omega)
  obtain ⟨h1, h2, h3, h4, h5⟩ := okD_iff hd
  have b2 := pr_bound h4 h5 (i := i) (by omega) hx
  obtain ⟨s1, s2⟩ := smp_iff (all_getD h5 hx)
  rw [w64_in (n := (M.cutN l p (p + n)).getD i 0) (by omega) (by omega)]
  show M.w64 (_ + M.w64 (M.pr (M.row n co j) (M.cutN l p (p + n)) i)) = _
  rw [w64_in (n := M.pr (M.row n co j) (M.cutN l p (p + n)) i) (by omega) (by omega), w64_in (by omega) (by omega), Int.add_assoc]
  rfl

def l_RC : Nat → St → Option (List (Bool × Ex × St))
  | 0, ⟨[(2, .ptr 0 0 3), (3, .ptr 1 0 2), (4, .ptr 2 0 2), (5, .int .i64 0), (6, .ptr 3 0 2), (7, .int .i64 p), (8, .int .i64 r), (9, .int .i64 16384), (10, .int .i64 0)], [(3, .fix (.cells [.int .i64 mo, .nilsl])), (2, .fix (.cells [.int .i64 0, .nilsl])), (1, .fix (.cells [.int .i64 c, .vi .i32 l])), (0, .fix (.cells [.int .i64 n, .int .i64 m, .vi .i64 co]))], 4⟩ => some [(M.okRef1 n m co l p r, .exit 4, RC0 n m mo co c l [] p r (16384 + M.dotZ n.toNat (M.pr (M.row n co r.toNat) (M.cutN l p (p + n)))) n)]
  | 0, ⟨[(2, .ptr 0 0 3), (3, .ptr 1 0 2), (4, .ptr 2 0 2), (5, .int .i64 0), (6, .ptr 3 0 2), (7, .int .i64 p), (8, .int .i64 r), (9, .int .i64 16384), (10, .int .i64 0)], [(4, .grow 1 0 (.ints .i32 a)), (3, .fix (.cells [.int .i64 mo, .gsl 4 0])), (2, .fix (.cells [.int .i64 0, .nilsl])), (1, .fix (.cells [.int .i64 c, .vi .i32 l])), (0, .fix (.cells [.int .i64 n, .int .i64 m, .vi .i64 co]))], 5⟩ => some [(M.okRef1 n m co l p r, .exit 4, RC1 n m mo co c l a p r (16384 + M.dotZ n.toNat (M.pr (M.row n co r.toNat) (M.cutN l p (p + n)))) n)]
  | _, _ => none
noncomputable def c5 : Cfg := c4

theorem c5_ok : CfgOK c5 := c4_ok

def RRh (n m mo : Int) (co : List Int) (c : Int) (l : List Int) (p : Int) : Nat → St
  | 0 => RR0 n m mo co c l [] p 0
  | i + 1 => RR1 n m mo co c l (M.apF n m co l p (i + 1)) p (i + 1 : Nat)

def l_RR : Nat → St → Option (List (Bool × Ex × St))
  | 0, ⟨[(2, .ptr 0 0 3), (3, .ptr 1 0 2), (4, .ptr 2 0 2), (5, .int .i64 0), (6, .ptr 3 0 2), (7, .int .i64 p), (8, .int .i64 0)], [(3, .fix (.cells [.int .i64 mo, .nilsl])), (2, .fix (.cells [.int .i64 0, .nilsl])), (1, .fix (.cells [.int .i64 c, .vi .i32 l])), (0, .fix (.cells [.int .i64 n, .int .i64 m, .vi .i64 co]))], 4⟩ => some [(M.okRef n m co l p, .exit 2, RR1 n m mo co c l (M.apF n m co l p m.toNat) p m)]
  | 0, ⟨[(2, .ptr 0 0 3), (3, .ptr 1 0 2), (4, .ptr 2 0 2), (5, .int .i64 0), (6, .ptr 3 0 2), (7, .int .i64 p), (8, .int .i64 0)], [(4, .grow 1 0 (.ints .i32 a)), (3, .fix (.cells [.int .i64 mo, .gsl 4 0])), (2, .fix (.cells [.int .i64 0, .nilsl])), (1, .fix (.cells [.int .i64 c, .vi .i32 l])), (0, .fix (.cells [.int .i64 n, .int .i64 m, .vi .i64 co]))], 5⟩ => some [(M.okRef n m co l p && decide (a.length ≤ 4194304), .exit 2, RR1 n m mo co c l (a ++ M.apF n m co l p m.toNat) p m)]
  | _, _ => none
noncomputable def c6 : Cfg := c5

theorem c6_ok : CfgOK c6 := c5_ok

theorem okRef_of {n m : Int} {co l : List Int} (h : M.okApp n m co l = true) {p : Int} (h0 : 0 ≤ p) (h1 : p + n ≤ l.length) : M.okRef n m co l p = true := by
  unfold M.okRef
  rw [h, decide_eq_true h0, decide_eq_true h1]
  rfl
def Rh (n m mo : Int) (co : List Int) (c : Int) (l : List Int) : Nat → St
  | 0 => R0 n m mo co c l [] 0
  | i + 1 => R1 n m mo co c l (M.apD n m co l (i + 1)) ((i + 1 : Nat) * n)
def l_R : Nat → St → Option (List (Bool × Ex × St))
  | 0, ⟨[(2, .ptr 0 0 3), (3, .ptr 1 0 2), (4, .ptr 2 0 2), (5, .int .i64 0), (6, .ptr 3 0 2), (7, .int .i64 0)], [(3, .fix (.cells [.int .i64 mo, .nilsl])), (2, .fix (.cells [.int .i64 0, .nilsl])), (1, .fix (.cells [.int .i64 c, .vi .i32 l])), (0, .fix (.cells [.int .i64 n, .int .i64 m, .vi .i64 co]))], 4⟩ => some [(M.okAll n m co l && decide (l.length = 0), .exit 0, R0 n m mo co c l [] 0), (M.okAll n m co l && decide (l.length ≠ 0), .exit 0, R1 n m mo co c l (M.apD n m co l (l.length / n.toNat)) l.length)]
  | _, _ => none
noncomputable def c7 : Cfg := c6

theorem c7_ok : CfgOK c7 := c6_ok

def m_rApply : List AV → Option (Bool × AV)
  | [.agg [.int .i64 n, .int .i64 m, co_], .agg [.int .i64 c, l_]] => (asVi .i64 co_).bind fun co => (asVi .i32 l_).bind fun l => some ((decide (co.length < 4294967296) && decide (l.length < 4294967296)), .tuple [.agg [.int .i64 (M.apO n m co c l), .vi .i32 (M.apR n m co c l)], .int .i64 (M.apE n m co c l)])
  | _ => none
noncomputable def c8 : Cfg := c7

theorem c8_ok : CfgOK c8 := c7_ok

end Go.Proofs.Ytooiechjanmdjaa
