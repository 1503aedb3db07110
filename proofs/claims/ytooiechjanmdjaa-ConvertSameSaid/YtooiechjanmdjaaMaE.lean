/- The models of matrices: matrices that are made, and what the statements use. -/
import Derived.Test.YtooiechjanmdjaaMaD
namespace Go.Proofs.Ytooiechjanmdjaa
open Am
set_option maxRecDepth 100000
set_option linter.unusedVariables false
set_option linter.unusedSimpArgs false

namespace M
def cofV (l : List Int) : Int := [0, 32768, 23170, -32768, 131072, -131072, 1, w64 (nextV 256 l * 128)].getD (nextV 8 (nextL 256 l)).toNat 0
def cofL (l : List Int) : List Int := nextL 8 (nextL 256 l)
def matD : Nat → List Int → List Int
  | 0, _ => []
  | k + 1, l => cofV l :: matD k (cofL l)
def matL : Nat → List Int → List Int
  | 0, l => l
  | k + 1, l => matL k (cofL l)
def okM (a b : Int) : Bool := decide (1 ≤ a) && decide (a ≤ 8) && decide (1 ≤ b) && decide (b ≤ 8)
end M
theorem okM_ok {a b : Int} (h : M.okM a b = true) : ((a * b).toNat : Int) = a * b ∧ 1 ≤ (a * b).toNat ∧ (a * b).toNat ≤ 64 ∧ M.w64 (a * b) = ((a * b).toNat : Int) := by
  unfold M.okM at h
  simp only [Bool.and_eq_true, decide_eq_true_eq] at h
  obtain ⟨⟨⟨h1, h2⟩, h3⟩, h4⟩ := h
  have x1 : 1 ≤ a * b := by
    have := Int.mul_le_mul h1 h3 (by omega) (by omega)
    omega
  have x2 : a * b ≤ 64 := by
    have := Int.mul_le_mul h2 h4 (by omega) (by omega)
    omega
  refine ⟨by omega, by omega, by omega, ?_⟩
  rw [w64_in (by omega) (by omega)]; omega
theorem matD_snoc : ∀ (i : Nat) (l : List Int), M.matD (i + 1) l = M.matD i l ++ [M.cofV (M.matL i l)]
  | 0, l => rfl
  | i + 1, l => by
    have := matD_snoc i (M.cofL l)
    simp only [M.matD, M.matL, List.cons_append] at this ⊢
    rw [this]
theorem matL_snoc : ∀ (i : Nat) (l : List Int), M.matL (i + 1) l = M.cofL (M.matL i l)
  | 0, l => rfl
  | i + 1, l => by
    have := matL_snoc i (M.cofL l)
    simp only [M.matL] at this ⊢
    rw [this]
theorem matD_length : ∀ (i : Nat) (l : List Int), (M.matD i l).length = i
  | 0, l => rfl
  | i + 1, l => by simp [M.matD, matD_length i]

def mSt0 (c n i : Int) (l : List Int) : St := ⟨[(0, .ptr 0 0 1), (1, .int .i64 c), (2, .int .i64 n), (6, .ptr 1 0 3), (7, .ptr 2 0 3), (8, .int .i64 i)], [(2, .fix (.cells [.int .i64 c, .int .i64 n, .nilsl])), (1, .fix (.cells [.int .i64 0, .int .i64 0, .nilsl])), (0, .fix (.cells [.vi .u8 l]))], 3⟩
def mSt1 (c n i : Int) (a l : List Int) : St := ⟨[(0, .ptr 0 0 1), (1, .int .i64 c), (2, .int .i64 n), (6, .ptr 1 0 3), (7, .ptr 2 0 3), (8, .int .i64 i)], [(3, .grow 1 0 (.ints .i64 a)), (2, .fix (.cells [.int .i64 c, .int .i64 n, .gsl 3 0])), (1, .fix (.cells [.int .i64 0, .int .i64 0, .nilsl])), (0, .fix (.cells [.vi .u8 l]))], 4⟩
def mHead (c n : Int) (l : List Int) : Nat → St
  | 0 => mSt0 c n 0 l
  | i + 1 => mSt1 c n (i + 1 : Nat) (M.matD (i + 1) l) (M.matL (i + 1) l)

def l_Mat : Nat → St → Option (Bool × Ex × St)
  | 1, ⟨[(0, .ptr 0 0 1), (1, .int .i64 c), (2, .int .i64 n), (6, .ptr 1 0 3), (7, .ptr 2 0 3), (8, .int .i64 0)], [(2, .fix (.cells [.int .i64 c_, .int .i64 n_, .nilsl])), (1, .fix (.cells [.int .i64 0, .int .i64 0, .nilsl])), (0, .fix (.cells [.vi .u8 l]))], 3⟩ => some (decide (c_ = c) && decide (n_ = n) && M.okM c n && M.byt l, .exit 0, mSt1 c n ((c * n).toNat : Nat) (M.matD (c * n).toNat l) (M.matL (c * n).toNat l))
  | _, _ => none
noncomputable def d1 : Cfg := c8

theorem d1_ok : CfgOK d1 := c8_ok

def m_Matrix : List AV → Sto → Option (Bool × AV × Upd × Nat)
  | [.ptr 0 0 1, .int .i64 c, .int .i64 n], [(0, .fix (.cells [.vi .u8 l]))] => some ((M.okM c n && M.byt l), .agg [.int .i64 c, .int .i64 n, .vi .i64 (M.matD (c * n).toNat l)], [(0, .fix (.cells [.vi .u8 (M.matL (c * n).toNat l)]))], 1)
  | _, _ => none
noncomputable def d2 : Cfg := d1

theorem d2_ok : CfgOK d2 := d1_ok

namespace M
def sameM (n m : Int) (a : List Int) (n' m' : Int) (b : List Int) : Bool := bif n == n' then bif m == m' then eqL a b else false else false
def sameB (n : Int) (a : List Int) (n' : Int) (b : List Int) : Bool := bif n == n' then eqL a b else false
end M
theorem eqL_self (l : List Int) : M.eqL l l = true := decide_eq_true rfl
theorem sameM_self (n m : Int) (l : List Int) : M.sameM n m l n m l = true := by unfold M.sameM; rw [beq_self_eq_true, beq_self_eq_true, eqL_self]; rfl
theorem sameB_self (n : Int) (l : List Int) : M.sameB n l n l = true := by unfold M.sameB; rw [beq_self_eq_true, eqL_self]; rfl

theorem e_MSame (n m : Int) (a : List Int) (n' m' : Int) (b : List Int) (hc : decide (a.length < 4294967296) = true) : Ev (callB d2 noCall 0 34 [.agg [.int .i64 n, .int .i64 m, .vi .i64 a], .agg [.int .i64 n', .int .i64 m', .vi .i64 b]] [] 0) (.bool (M.sameM n m a n' m' b)) := by
  rw [show callB d2 noCall 0 34 [.agg [.int .i64 n, .int .i64 m, .vi .i64 a], .agg [.int .i64 n', .int .i64 m', .vi .i64 b]] [] 0 = (bif n == n' then (bif m == m' then (bif decide (a.length < 4294967296) && true then some (.bool (M.eqL a b), [], 0) else none) else some (.bool false, [], 0)) else some (.bool false, [], 0)) by kernel_rfl]
  rw [hc]
  unfold M.sameM
  cases (n == n') <;> cases (m == m') <;> exact ⟨_, [], 0, rfl, rfl, .refl _⟩
def m_MSame : List AV → Option (Bool × AV)
  | [.agg [.int .i64 n, .int .i64 m, a_], .agg [.int .i64 n', .int .i64 m', b_]] => (asVi .i64 a_).bind fun a => (asVi .i64 b_).bind fun b => some (decide (a.length < 4294967296), .bool (M.sameM n m a n' m' b))
  | _ => none
noncomputable def d3 : Cfg := d2.add 34 m_MSame
theorem d3_ok : CfgOK d3 := add_ok d2_ok fun xs v h => by
  unfold m_MSame at h; split at h
  · obtain ⟨a, h_a, h⟩ := Option.bind_eq_some_iff.1 h
    obtain ⟨b, h_b, h⟩ := Option.bind_eq_some_iff.1 h
    simp only [Option.some.injEq, Prod.mk.injEq] at h; obtain ⟨h1, rfl⟩ := h
    exact Ev.pure d2_ok noCall_ok (e_MSame _ _ _ _ _ _ h1) (.cons (.agg (.cons (.refl _) (.cons (.refl _) (.cons (asVi_le h_a) (.refl _))))) (.cons (.agg (.cons (.refl _) (.cons (.refl _) (.cons (asVi_le h_b) (.refl _))))) (.refl _)))
  · cases h

def m_BSame : List AV → Option (Bool × AV)
  | [.agg [.int .i64 n, a_], .agg [.int .i64 n', b_]] => (asVi .i32 a_).bind fun a => (asVi .i32 b_).bind fun b => some (decide (a.length < 4294967296), .bool (M.sameB n a n' b))
  | _ => none
noncomputable def d4 : Cfg := d3

theorem d4_ok : CfgOK d4 := d3_ok

def m_kept : List AV → Option (Bool × AV)
  | [.agg [.int .i64 n, .int .i64 m, a_]] => (asVi .i64 a_).bind fun a => some (true, .bool (decide ((a.length : Int) ≤ 100)))
  | _ => none
noncomputable def d5 : Cfg := d4

theorem d5_ok : CfgOK d5 := d4_ok

def m_keepB : List AV → Option (Bool × AV)
  | [.agg [.int .i64 n, a_], .int .i64 m] => (asVi .i32 a_).bind fun a => some (true, .bool (decide ((a.length : Int) ≤ m)))
  | _ => none
noncomputable def d6 : Cfg := d5

theorem d6_ok : CfgOK d6 := d5_ok

end Go.Proofs.Ytooiechjanmdjaa
