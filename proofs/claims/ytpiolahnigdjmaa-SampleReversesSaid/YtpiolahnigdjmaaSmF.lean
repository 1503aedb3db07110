/- The models of the law of order: two samples. -/
import Derived.Test.YtpiolahnigdjmaaSmS
import Derived.Test.YtpiolahnigdjmaaSmP
namespace Go.Proofs.Ytpiolahnigdjmaa
open Am
set_option maxRecDepth 100000
set_option linter.unusedVariables false
set_option linter.unusedSimpArgs false

namespace M
def nr (x y h : Int) : Bool := (decide (w32 (x - y) ≥ w32 (0 - h)) && decide (w32 (x - y) ≤ h)) || (decide (x > w32 (8388607 - w32 (2 * h))) && decide (y ≤ x))
def okO (k x y : Int) : Bool := decide (1 ≤ k) && decide (k ≤ 7) && smp x && smp y
def enc2 (k x y : Int) : List Int := encS (fsz k) (fbg k) x ++ encS (fsz k) (fbg k) y
def okTwo (k : Int) (c : List Int) : Bool := byt c && decide (1 ≤ k) && decide (k ≤ 7) && decide (c.length = 2 * (fsz k).toNat)
def d0 (k : Int) (c : List Int) : Int := decS (fsz k) (fbg k) (c.take (fsz k).toNat)
def d1 (k : Int) (c : List Int) : Int := decS (fsz k) (fbg k) (c.drop (fsz k).toNat)
end M
theorem kind_okF {k : Int} (h1 : 1 ≤ k) (h2 : k ≤ 7) : M.okF (M.fsz k) (M.fbg k) = true := by
  rcases kinds k with rfl | rfl | rfl | rfl | rfl | rfl | rfl | ⟨a1, a2, a3, a4, a5, a6, a7⟩ <;> first | rfl | skip
  simp at a1 a2 a3 a4 a5 a6 a7
  omega

theorem e_near (x y h : Int) : Ev (callB z1 noCall 0 17 [.int .i32 x, .int .i32 y, .int .i32 h] [] 0) (.bool (M.nr x y h)) := by
  rw [show callB z1 noCall 0 17 [.int .i32 x, .int .i32 y, .int .i32 h] [] 0 = (bif decide (M.w32 (x - y) ≥ M.w32 (0 - h)) then (bif !decide (M.w32 (x - y) ≤ h) then (bif decide (x > M.w32 (8388607 - M.w32 (2 * h))) then some (.bool (decide (y ≤ x)), [], 0) else some (.bool false, [], 0)) else some (.bool true, [], 0)) else bif decide (x > M.w32 (8388607 - M.w32 (2 * h))) then some (.bool (decide (y ≤ x)), [], 0) else some (.bool false, [], 0)) by kernel_rfl]
  unfold M.nr
  cases decide (M.w32 (x - y) ≥ M.w32 (0 - h)) <;> cases decide (M.w32 (x - y) ≤ h) <;> cases decide (x > M.w32 (8388607 - M.w32 (2 * h))) <;> cases decide (y ≤ x) <;> exact ⟨_, [], 0, rfl, rfl, .refl _⟩
def m_near : List AV → Option (Bool × AV)
  | [.int .i32 x, .int .i32 y, .int .i32 h] => some (true, .bool (M.nr x y h))
  | _ => none
noncomputable def y1 : Cfg := z1.add 17 m_near
theorem y1_ok : CfgOK y1 := add_ok z1_ok fun xs v h => by
  unfold m_near at h; split at h
  · simp only [Option.some.injEq, Prod.mk.injEq, true_and] at h; subst h
    exact Ev.pure z1_ok noCall_ok (e_near _ _ _) (.refl _)
  · cases h

def h_Enc : List AV → Option (Bool × AV)
  | [.int .i64 k, .vi .i32 [x, y]] => some (M.okO k x y, .tuple [.vi .u8 (M.enc2 k x y), .int .i64 0])
  | _ => none
noncomputable def y2 : Cfg := y1.add 12 h_Enc
theorem y2_ok : CfgOK y2 := add_ok y1_ok fun xs v h => by
  unfold h_Enc at h; split at h
  · rename_i k x y
    simp only [Option.some.injEq, Prod.mk.injEq] at h; obtain ⟨h1, rfl⟩ := h
    unfold M.okO at h1
    simp only [Bool.and_eq_true, decide_eq_true_eq] at h1
    obtain ⟨⟨⟨k1, k2⟩, hx⟩, hy⟩ := h1
    have hf := kind_okF k1 k2
    have hz : (M.fsz k == 0) = false := by have := okF_sz hf; simp; omega
    have hE : M.encE k [x, y] = 0 := by unfold M.encE; rw [hz]; simp [hx, hy]
    have hL : M.encL k [x, y] = M.enc2 k x y := by unfold M.encL; rw [hE]; simp [M.enc2]
    have e := e_Encode k [x, y]
    rw [hE, hL] at e
    exact Ev.pure s10_ok noCall_ok e (.refl _)
  · cases h
def h_Dec : List AV → Option (Bool × AV)
  | [.int .i64 k, .vi .u8 c] => some (M.okTwo k c, .tuple [.vi .i32 [M.d0 k c, M.d1 k c], .int .i64 0])
  | _ => none
noncomputable def y3 : Cfg := y2.add 14 h_Dec
theorem y3_ok : CfgOK y3 := add_ok y2_ok fun xs v h => by
  unfold h_Dec at h; split at h
  · rename_i k c
    simp only [Option.some.injEq, Prod.mk.injEq] at h; obtain ⟨h1, rfl⟩ := h
    unfold M.okTwo at h1
    simp only [Bool.and_eq_true, decide_eq_true_eq] at h1
    obtain ⟨⟨⟨hb, k1⟩, k2⟩, hl⟩ := h1
    have hf := kind_okF k1 k2
    obtain ⟨z1, z2, z3⟩ := okF_sz hf
    have hz : (M.fsz k == 0) = false := by simp; omega
    have hq : c.length / (M.fsz k).toNat = 2 := by rw [hl]; exact Nat.mul_div_cancel _ (by omega)
    have hr : c.length % (M.fsz k).toNat = 0 := by rw [hl]; exact Nat.mul_mod_left _ _
    have hE : M.decE k c = 0 := by unfold M.decE; rw [hz, hq, hr]; rfl
    have hL : M.decL k c = [M.d0 k c, M.d1 k c] := by
      unfold M.decL; rw [hE]
      show M.decAll (M.fsz k) (M.fbg k) c = _
      unfold M.decAll
      rw [hq]
      show [M.decS _ _ (M.chunk c ((M.fsz k).toNat * 0) _), M.decS _ _ (M.chunk c ((M.fsz k).toNat * 1) _)] = _
      unfold M.chunk M.d0 M.d1
      rw [Nat.mul_zero, List.drop_zero, Nat.mul_one, List.take_of_length_le (l := c.drop _) (by rw [List.length_drop]; omega)]
    have e := e_Decode k c (by rw [hb, decide_eq_true (by omega)]; rfl)
    rw [hE, hL] at e
    exact Ev.pure t1_ok noCall_ok e (.refl _)
  · cases h

end Go.Proofs.Ytpiolahnigdjmaa
