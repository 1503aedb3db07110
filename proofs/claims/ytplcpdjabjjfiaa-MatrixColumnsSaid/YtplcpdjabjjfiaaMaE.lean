/- The models of matrices: matrices that are made, and what the statements use. -/
import Derived.Test.YtplcpdjabjjfiaaMaD
namespace Go.Proofs.Ytplcpdjabjjfiaa
open Am
set_option maxRecDepth 100000
set_option linter.unusedVariables false
set_option linter.unusedSimpArgs false

namespace M
def cofV (l : List Int) : Int := [0, 32768, 23170, -32768, 131072, -131072, 1, w64 (nextV 256 l * 128)].getD (nextV 8 (nextL 256 l)).toNat 0
def cofL (l : List Int) : List Int := nextL 8 (nextL 256 l)
def matD : Nat → List Int → List Int
  | 0, _ => []
  | k + 1, l => cofV l :: matD k (cofL l)
def matL : Nat → List Int → List Int
  | 0, l => l
  | k + 1, l => matL k (cofL l)
def okM (a b : Int) : Bool := decide (1 ≤ a) && decide (a ≤ 8) && decide (1 ≤ b) && decide (b ≤ 8)
end M
theorem okM_ok {a b : Int} (h : M.okM a b = true) : ((a * b).toNat : Int) = a * b ∧ 1 ≤ (a * b).toNat ∧ (a * b).toNat ≤ 64 ∧ M.w64 (a * b) = ((a * b).toNat : Int) := by
  unfold M.okM at h
  simp only [Bool.and_eq_true, decide_eq_true_eq] at h
  obtain ⟨⟨⟨h1, h2⟩, h3⟩, h4⟩ := h
  have x1 : 1 ≤ a * b := by
    have := Int.mul_le_mul h1 h3 (by omega) (by omega)
    omega
  have x2 : a * b ≤ 64 := by
    have := Int.mul_le_mul h2 h4 (by omega) (by omega)
    omega
  refine ⟨by omega, by omega, by omega, ?_⟩
  rw [w64_in (by omega) (by omega)]; omega
theorem matD_snoc : ∀ (i : Nat) (l : List Int), M.matD (i + 1) l = M.matD i l ++ [M.cofV (M.matL i l)]
  | 0, l => rfl
  | i + 1, l => by
    have := matD_snoc i (M.cofL l)
    simp only [M.matD, M.matL, List.cons_append] at this ⊢
    rw [this]
theorem matL_snoc : ∀ (i : Nat) (l : List Int), M.matL (i + 1) l = M.cofL (M.matL i l)
  | 0, l => rfl
  | i + 1, l => by
    have := matL_snoc i (M.cofL l)
    simp only [M.matL] at this ⊢
    rw [this]
theorem matD_length : ∀ (i : Nat) (l : List Int), (M.matD i l).length = i
  | 0, l => rfl
  | i + 1, l => by simp [M.matD, matD_length i]

def mSt0 (c n i : Int) (l : List Int) : St := ⟨[(0, .ptr 0 0 1), (1, .int .i64 c), (2, .int .i64 n), (6, .ptr 1 0 3), (7, .ptr 2 0 3), (8, .int .i64 i)], [(2, .fix (.cells [.int .i64 c, .int .i64 n, .nilsl])), (1, .fix (.cells [.int .i64 0, .int .i64 0, .nilsl])), (0, .fix (.cells [.vi .u8 l]))], 3⟩
def mSt1 (c n i : Int) (a l : List Int) : St := ⟨[(0, .ptr 0 0 1), (1, .int .i64 c), (2, .int .i64 n), (6, .ptr 1 0 3), (7, .ptr 2 0 3), (8, .int .i64 i)], [(3, .grow 1 0 (.ints .i64 a)), (2, .fix (.cells [.int .i64 c, .int .i64 n, .gsl 3 0])), (1, .fix (.cells [.int .i64 0, .int .i64 0, .nilsl])), (0, .fix (.cells [.vi .u8 l]))], 4⟩
theorem m_step0 {R : Type} (c n i : Int) (l : List Int) (K : Kont R) : execK c8 14 1 (ntAt c8.P 14) noCall 0 none (bodyAt c8.P 14 0) (mSt0 c n i l) (kRes 1 (keep 14 0) K) =
    (bif decide (i < M.w64 (c * n)) then (bif decide (0 ≤ M.nextV 8 (M.nextL 256 l)) && decide (M.nextV 8 (M.nextL 256 l) < 8) && true then K .normal (mSt1 c n (M.w64 (i + 1)) [M.cofV l] (M.cofL l)) else none) else K (.exit 0) (mSt0 c n i l)) := by kernel_rfl
theorem m_step1 {R : Type} (c n i : Int) (a l : List Int) (K : Kont R) : execK c8 14 1 (ntAt c8.P 14) noCall 0 none (bodyAt c8.P 14 0) (mSt1 c n i a l) (kRes 1 (keep 14 0) K) =
    (bif decide (i < M.w64 (c * n)) then (bif decide (0 ≤ M.nextV 8 (M.nextL 256 l)) && decide (M.nextV 8 (M.nextL 256 l) < 8) && true then (bif Nat.ble (a.length + 1) 4294967296 && true then K .normal (mSt1 c n (M.w64 (i + 1)) (a ++ [M.cofV l]) (M.cofL l)) else none) else none) else K (.exit 0) (mSt1 c n i a l)) := by kernel_rfl
def mHead (c n : Int) (l : List Int) : Nat → St
  | 0 => mSt0 c n 0 l
  | i + 1 => mSt1 c n (i + 1 : Nat) (M.matD (i + 1) l) (M.matL (i + 1) l)

theorem m_next0 {R : Type} {c n : Int} {l : List Int} (hc : M.okM c n = true) (hb : M.byt l = true) (i : Nat) (hi : i < (c * n).toNat) (K' : Kont R) : execK c8 14 1 (ntAt c8.P 14) noCall 0 none (bodyAt c8.P 14 0) (mHead c n l i) (kRes 1 (keep 14 0) K') = K' .normal (mHead c n l (i + 1)) := by
  obtain ⟨_, h1, h2, h3⟩ := okM_ok hc
  have hbi : ∀ j, M.byt (M.matL j l) = true := by
    intro j
    induction j with
    | zero => exact hb
    | succ j ih => rw [matL_snoc]; exact byt_next (byt_next ih)
  have r := next_range (n := 8) (by omega) (byt_next (n := 256) (hbi i))
  have hr : (decide (0 ≤ M.nextV 8 (M.nextL 256 (M.matL i l))) && decide (M.nextV 8 (M.nextL 256 (M.matL i l)) < 8) && true) = true := by rw [decide_eq_true r.1, decide_eq_true r.2]; rfl
  cases i with
  | zero =>
    show execK c8 14 1 (ntAt c8.P 14) noCall 0 none (bodyAt c8.P 14 0) (mSt0 c n 0 l) _ = _
    rw [m_step0, h3, decide_eq_true (by omega : (0 : Int) < ((c * n).toNat : Int))]
    have hr' : (decide (0 ≤ M.nextV 8 (M.nextL 256 l)) && decide (M.nextV 8 (M.nextL 256 l) < 8) && true) = true := hr
    rw [hr']
    rfl
  | succ i =>
    show execK c8 14 1 (ntAt c8.P 14) noCall 0 none (bodyAt c8.P 14 0) (mSt1 c n (i + 1 : Nat) (M.matD (i + 1) l) (M.matL (i + 1) l)) _ = _
    rw [m_step1, h3, decide_eq_true (by omega : ((i + 1 : Nat) : Int) < ((c * n).toNat : Int)), hr, show Nat.ble ((M.matD (i + 1) l).length + 1) 4294967296 = true by rw [matD_length]; exact Nat.ble_eq_true_of_le (by omega), w64_in (n := ((i + 1 : Nat) : Int) + 1) (by omega) (by omega), ← matD_snoc, ← matL_snoc]
    rfl

def l_Mat : Nat → St → Option (Bool × Ex × St)
  | 1, ⟨[(0, .ptr 0 0 1), (1, .int .i64 c), (2, .int .i64 n), (6, .ptr 1 0 3), (7, .ptr 2 0 3), (8, .int .i64 0)], [(2, .fix (.cells [.int .i64 c_, .int .i64 n_, .nilsl])), (1, .fix (.cells [.int .i64 0, .int .i64 0, .nilsl])), (0, .fix (.cells [.vi .u8 l]))], 3⟩ => some (decide (c_ = c) && decide (n_ = n) && M.okM c n && M.byt l, .exit 0, mSt1 c n ((c * n).toNat : Nat) (M.matD (c * n).toNat l) (M.matL (c * n).toNat l))
  | _, _ => none
noncomputable def d1 : Cfg := c8.addL 14 0 l_Mat
theorem d1_ok : CfgOK d1 := addL_ok c8_ok (by kernel_rfl) fun lo st ex st' h => by
  unfold l_Mat at h
  split at h
  · simp only [Option.some.injEq, Prod.mk.injEq] at h
    obtain ⟨hc, rfl, rfl⟩ := h
    rename_i c n c_ n_ l
    simp only [Bool.and_eq_true, decide_eq_true_eq] at hc
    obtain ⟨⟨⟨rfl, rfl⟩, hc⟩, hb⟩ := hc
    obtain ⟨_, h1, h2, h3⟩ := okM_ok hc
    have hh : mSt1 c_ n_ ((c_ * n_).toNat : Nat) (M.matD (c_ * n_).toNat l) (M.matL (c_ * n_).toNat l) = mHead c_ n_ l (c_ * n_).toNat := by
      obtain ⟨m, hm⟩ : ∃ m, (c_ * n_).toNat = m + 1 := ⟨(c_ * n_).toNat - 1, by omega⟩
      rw [hm]; rfl
    refine loop_known (m := 0) (kp := keep 14 0) c8_ok noCall_ok ?_
    rw [hh]
    refine loop_rule (mHead c_ n_ l) (fun i => i ≤ (c_ * n_).toNat) (fun i => (c_ * n_).toNat - i) (fun _ => (.exit 0, mHead c_ n_ l (c_ * n_).toNat)) (fun i hi => ?_) 0 (Nat.zero_le _)
    by_cases hlt : i < (c_ * n_).toNat
    · exact .inl ⟨i + 1, hlt, by omega, rfl, fun K' => m_next0 hc hb i hlt K'⟩
    · have : i = (c_ * n_).toNat := by omega
      subst this
      refine .inr ⟨⟨0, .inl rfl⟩, fun K' => ?_⟩
      rw [← hh, m_step1, h3, decide_eq_false (by omega)]
      rfl
  · cases h

theorem e_Matrix (c n : Int) (l : List Int) (hc : (M.okM c n && M.byt l) = true) : callB d1 noCall 0 14 [.ptr 0 0 1, .int .i64 c, .int .i64 n] [(0, .fix (.cells [.vi .u8 l]))] 1 = some (.agg [.int .i64 c, .int .i64 n, .vi .i64 (M.matD (c * n).toNat l)], [(0, .fix (.cells [.vi .u8 (M.matL (c * n).toNat l)]))], 1) := by
  refine (show callB d1 noCall 0 14 [.ptr 0 0 1, .int .i64 c, .int .i64 n] [(0, .fix (.cells [.vi .u8 l]))] 1 = (bif decide (c = c) && decide (n = n) && M.okM c n && M.byt l then some (.agg [.int .i64 c, .int .i64 n, .vi .i64 (M.matD (c * n).toNat l)], [(0, .fix (.cells [.vi .u8 (M.matL (c * n).toNat l)]))], 1) else none) by kernel_rfl).trans ?_
  rw [decide_eq_true rfl, decide_eq_true rfl, Bool.true_and, Bool.true_and, hc]
  rfl
def m_Matrix : List AV → Sto → Option (Bool × AV × Upd × Nat)
  | [.ptr 0 0 1, .int .i64 c, .int .i64 n], [(0, .fix (.cells [.vi .u8 l]))] => some ((M.okM c n && M.byt l), .agg [.int .i64 c, .int .i64 n, .vi .i64 (M.matD (c * n).toNat l)], [(0, .fix (.cells [.vi .u8 (M.matL (c * n).toNat l)]))], 1)
  | _, _ => none
noncomputable def d2 : Cfg := d1.addR 14 m_Matrix
theorem d2_ok : CfgOK d2 := addR_ok d1_ok fun xs s v u nx h => by
  unfold m_Matrix at h; split at h
  · simp only [Option.some.injEq, Prod.mk.injEq] at h; obtain ⟨h1, rfl, rfl, rfl⟩ := h; exact callB_ok d1_ok noCall_ok 0 _ _ _ _ _ _ _ (e_Matrix _ _ _ h1)
  · cases h

namespace M
def sameM (n m : Int) (a : List Int) (n' m' : Int) (b : List Int) : Bool := bif n == n' then bif m == m' then eqL a b else false else false
def sameB (n : Int) (a : List Int) (n' : Int) (b : List Int) : Bool := bif n == n' then eqL a b else false
end M
theorem eqL_self (l : List Int) : M.eqL l l = true := decide_eq_true rfl
theorem sameM_self (n m : Int) (l : List Int) : M.sameM n m l n m l = true := by unfold M.sameM; rw [beq_self_eq_true, beq_self_eq_true, eqL_self]; rfl
theorem sameB_self (n : Int) (l : List Int) : M.sameB n l n l = true := by unfold M.sameB; rw [beq_self_eq_true, eqL_self]; rfl

theorem e_MSame (n m : Int) (a : List Int) (n' m' : Int) (b : List Int) (hc : decide (a.length < 4294967296) = true) : Ev (callB d2 noCall 0 23 [.agg [.int .i64 n, .int .i64 m, .vi .i64 a], .agg [.int .i64 n', .int .i64 m', .vi .i64 b]] [] 0) (.bool (M.sameM n m a n' m' b)) := by
  rw [show callB d2 noCall 0 23 [.agg [.int .i64 n, .int .i64 m, .vi .i64 a], .agg [.int .i64 n', .int .i64 m', .vi .i64 b]] [] 0 = (bif n == n' then (bif m == m' then (bif decide (a.length < 4294967296) && true then some (.bool (M.eqL a b), [], 0) else none) else some (.bool false, [], 0)) else some (.bool false, [], 0)) by kernel_rfl]
  rw [hc]
  unfold M.sameM
  cases (n == n') <;> cases (m == m') <;> exact ⟨_, [], 0, rfl, rfl, .refl _⟩
def m_MSame : List AV → Option (Bool × AV)
  | [.agg [.int .i64 n, .int .i64 m, a_], .agg [.int .i64 n', .int .i64 m', b_]] => (asVi .i64 a_).bind fun a => (asVi .i64 b_).bind fun b => some (decide (a.length < 4294967296), .bool (M.sameM n m a n' m' b))
  | _ => none
noncomputable def d3 : Cfg := d2.add 23 m_MSame
theorem d3_ok : CfgOK d3 := add_ok d2_ok fun xs v h => by
  unfold m_MSame at h; split at h
  · obtain ⟨a, h_a, h⟩ := Option.bind_eq_some_iff.1 h
    obtain ⟨b, h_b, h⟩ := Option.bind_eq_some_iff.1 h
    simp only [Option.some.injEq, Prod.mk.injEq] at h; obtain ⟨h1, rfl⟩ := h
    exact Ev.pure d2_ok noCall_ok (e_MSame _ _ _ _ _ _ h1) (.cons (.agg (.cons (.refl _) (.cons (.refl _) (.cons (asVi_le h_a) (.refl _))))) (.cons (.agg (.cons (.refl _) (.cons (.refl _) (.cons (asVi_le h_b) (.refl _))))) (.refl _)))
  · cases h

theorem e_BSame (n : Int) (a : List Int) (n' : Int) (b : List Int) (hc : decide (a.length < 4294967296) = true) : Ev (callB d3 noCall 0 20 [.agg [.int .i64 n, .vi .i32 a], .agg [.int .i64 n', .vi .i32 b]] [] 0) (.bool (M.sameB n a n' b)) := by
  rw [show callB d3 noCall 0 20 [.agg [.int .i64 n, .vi .i32 a], .agg [.int .i64 n', .vi .i32 b]] [] 0 = (bif n == n' then (bif decide (a.length < 4294967296) && true then some (.bool (M.eqL a b), [], 0) else none) else some (.bool false, [], 0)) by kernel_rfl]
  rw [hc]
  unfold M.sameB
  cases (n == n') <;> exact ⟨_, [], 0, rfl, rfl, .refl _⟩
def m_BSame : List AV → Option (Bool × AV)
  | [.agg [.int .i64 n, a_], .agg [.int .i64 n', b_]] => (asVi .i32 a_).bind fun a => (asVi .i32 b_).bind fun b => some (decide (a.length < 4294967296), .bool (M.sameB n a n' b))
  | _ => none
noncomputable def d4 : Cfg := d3.add 20 m_BSame
theorem d4_ok : CfgOK d4 := add_ok d3_ok fun xs v h => by
  unfold m_BSame at h; split at h
  · obtain ⟨a, h_a, h⟩ := Option.bind_eq_some_iff.1 h
    obtain ⟨b, h_b, h⟩ := Option.bind_eq_some_iff.1 h
    simp only [Option.some.injEq, Prod.mk.injEq] at h; obtain ⟨h1, rfl⟩ := h
    exact Ev.pure d3_ok noCall_ok (e_BSame _ _ _ _ h1) (.cons (.agg (.cons (.refl _) (.cons (asVi_le h_a) (.refl _)))) (.cons (.agg (.cons (.refl _) (.cons (asVi_le h_b) (.refl _)))) (.refl _)))
  · cases h

theorem e_kept (n m : Int) (a : List Int) : Ev (callB d4 noCall 0 10 [.agg [.int .i64 n, .int .i64 m, .vi .i64 a]] [] 0) (.bool (decide ((a.length : Int) ≤ 100))) := by
  exact ⟨_, [], 0, by kernel_rfl, rfl, .refl _⟩
def m_kept : List AV → Option (Bool × AV)
  | [.agg [.int .i64 n, .int .i64 m, a_]] => (asVi .i64 a_).bind fun a => some (true, .bool (decide ((a.length : Int) ≤ 100)))
  | _ => none
noncomputable def d5 : Cfg := d4.add 10 m_kept
theorem d5_ok : CfgOK d5 := add_ok d4_ok fun xs v h => by
  unfold m_kept at h; split at h
  · obtain ⟨a, h_a, h⟩ := Option.bind_eq_some_iff.1 h
    simp only [Option.some.injEq, Prod.mk.injEq, true_and] at h; subst h
    exact Ev.pure d4_ok noCall_ok (e_kept _ _ _) (.cons (.agg (.cons (.refl _) (.cons (.refl _) (.cons (asVi_le h_a) (.refl _))))) (.refl _))
  · cases h

theorem e_keepB (n : Int) (a : List Int) (m : Int) : Ev (callB d5 noCall 0 11 [.agg [.int .i64 n, .vi .i32 a], .int .i64 m] [] 0) (.bool (decide ((a.length : Int) ≤ m))) := by
  exact ⟨_, [], 0, by kernel_rfl, rfl, .refl _⟩
def m_keepB : List AV → Option (Bool × AV)
  | [.agg [.int .i64 n, a_], .int .i64 m] => (asVi .i32 a_).bind fun a => some (true, .bool (decide ((a.length : Int) ≤ m)))
  | _ => none
noncomputable def d6 : Cfg := d5.add 11 m_keepB
theorem d6_ok : CfgOK d6 := add_ok d5_ok fun xs v h => by
  unfold m_keepB at h; split at h
  · obtain ⟨a, h_a, h⟩ := Option.bind_eq_some_iff.1 h
    simp only [Option.some.injEq, Prod.mk.injEq, true_and] at h; subst h
    exact Ev.pure d5_ok noCall_ok (e_keepB _ _ _) (.cons (.agg (.cons (.refl _) (.cons (asVi_le h_a) (.refl _)))) (.cons (.leaf (.refl _)) (.refl _)))
  · cases h

end Go.Proofs.Ytplcpdjabjjfiaa
