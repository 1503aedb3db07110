/- The models of channels: places, validity. -/
import Derived.Test.YtooiechjanmdjaaSmE
namespace Go.Proofs.Ytooiechjanmdjaa
open Am
set_option maxRecDepth 100000
set_option linter.unusedVariables false
set_option linter.unusedSimpArgs false

namespace M
/-- a number of elements that a slice may have here -/
def okN (n : Int) (l : List Int) : Bool := decide ((l.length : Int) = n) && decide (l.length < 4294967296)
def ne (l : List Int) (x : Int) (i : Nat) : Bool := !(l.getD i 0 == x)
/-- the place of a number in a list, -1 if it is not there -/
def idx (l : List Int) (x : Int) : Int := bif allN l.length (ne l x) then -1 else (badAt l.length (ne l x) : Nat)
def pV (l : List Int) (i : Nat) : Bool := !decide (l.getD i 0 < 1) && !decide (l.getD i 0 > 8) && decide (idx l (l.getD i 0) = i)
def pW (l : List Int) (i : Nat) : Bool := !decide (l.getD i 0 < 1) && !decide (l.getD i 0 > 8) && !decide (idx (l.take i) (l.getD i 0) ≥ 0)
def mapV (l : List Int) : Bool := decide (1 ≤ l.length) && decide (l.length ≤ 8) && allN l.length (pV l)
end M
theorem okN_iff {n : Int} {l : List Int} : M.okN n l = true ↔ (l.length : Int) = n ∧ l.length < 4294967296 := by
  unfold M.okN; rw [Bool.and_eq_true, decide_eq_true_iff, decide_eq_true_iff]

def i_Idx (e : Int) (l : List Int) (x n i : Int) : St := ⟨[(0, .vi .i64 l), (1, .int .i64 x), (4, .int .i64 e), (7, .int .i64 n), (8, .int .i64 i)], [], 0⟩
theorem i_Idx_step {R : Type} (l : List Int) (x n i : Int) (K : Kont R) : execK t18 79 0 (ntAt t18.P 79) noCall 0 none (bodyAt t18.P 79 0) (i_Idx 0 l x n i) (kRes 0 (keep 79 0) K) =
    (bif decide (i < n) then (bif decide (0 ≤ i) && decide (i < l.length) && true then (bif x == l.getD i.toNat 0 then K .ret (i_Idx i l x n i) else K .normal (i_Idx 0 l x n (M.w64 (i + 1)))) else none) else K (.exit 0) (i_Idx 0 l x n i)) := by kernel_rfl

def l_lIdx : Nat → St → Option (List (Bool × Ex × St))
  | 0, ⟨[(0, .vi .i64 l), (1, .int .i64 x), (4, .int .i64 0), (7, .int .i64 n), (8, .int .i64 0)], [], 0⟩ => some [(M.okN n l && allN l.length (M.ne l x), .exit 0, i_Idx 0 l x n n), (M.okN n l, .ret, i_Idx (badAt l.length (M.ne l x) : Nat) l x n (badAt l.length (M.ne l x) : Nat))]
  | _, _ => none
noncomputable def a1 : Cfg := t18.addLL 79 0 l_lIdx
theorem a1_ok : CfgOK a1 := addLL_ok t18_ok (by kernel_rfl) fun lo st alts ex st' h hp => by
  unfold l_lIdx at h
  split at h
  · simp only [Option.some.injEq] at h
    subst h
    rename_i l x n
    cases hL : M.okN n l with
    | false => rw [hL] at hp; cases hp
    | true =>
      rw [hL] at hp
      obtain ⟨rfl, hlt⟩ := okN_iff.1 hL
      refine loop_known (m := 0) (kp := keep 79 0) t18_ok noCall_ok ?_
      have main := all_rule (lo := 0) (kp := keep 79 0) (b := execK t18 79 0 (ntAt t18.P 79) noCall 0 none (bodyAt t18.P 79 0)) (K := fun ex st => some (ex, st)) l.length (M.ne l x) (fun i => i_Idx 0 l x l.length i) 0 (fun i => (.ret, i_Idx i l x l.length i)) (fun i => .inr rfl) (fun i hi hp K' => by
        have he : (l.getD i 0 == x) = false := by unfold M.ne at hp; simpa using hp
        have he' : (x == l.getD i 0) = false := by rw [BEq.comm]; exact he
        rw [i_Idx_step, decide_eq_true (by omega : (i : Int) < l.length), decide_eq_true (by omega : (0 : Int) ≤ i), Int.toNat_natCast, he', w64_in (n := (i : Int) + 1) (by omega) (by omega)]
        rfl) (fun i hi hp K' => by
        have he : (l.getD i 0 == x) = true := by unfold M.ne at hp; simpa using hp
        have he' : (x == l.getD i 0) = true := by rw [BEq.comm]; exact he
        rw [i_Idx_step, decide_eq_true (by omega : (i : Int) < l.length), decide_eq_true (by omega : (0 : Int) ≤ i), Int.toNat_natCast, he']
        rfl) (fun K' => by
        rw [i_Idx_step, decide_eq_false (by omega : ¬ (l.length : Int) < l.length)]
        rfl)
      cases he : allN l.length (M.ne l x) with
      | true => rw [he] at hp; cases hp; exact main.1 he
      | false => rw [he] at hp; cases hp; exact main.2 he
  · cases h

theorem e_Idx (l : List Int) (x : Int) (hc : decide (l.length < 4294967296) = true) : Ev (callB a1 noCall 0 79 [.vi .i64 l, .int .i64 x] [] 0) (.int .i64 (M.idx l x)) := by
  rw [show callB a1 noCall 0 79 [.vi .i64 l, .int .i64 x] [] 0 = (bif M.okN l.length l && allN l.length (M.ne l x) then some (.int .i64 (-1), [], 0) else bif M.okN l.length l then some (.int .i64 (badAt l.length (M.ne l x) : Nat), [], 0) else none) by kernel_rfl]
  rw [okN_iff.2 ⟨rfl, of_decide_eq_true hc⟩]
  unfold M.idx
  cases allN l.length (M.ne l x) <;> exact ⟨_, [], 0, rfl, rfl, .refl _⟩
def m_Idx : List AV → Option (Bool × AV)
  | [l_, .int .i64 x] => (asVi .i64 l_).bind fun l => some (decide (l.length < 4294967296), .int .i64 (M.idx l x))
  | _ => none
noncomputable def a2 : Cfg := a1.add 79 m_Idx
theorem a2_ok : CfgOK a2 := add_ok a1_ok fun xs v h => by
  unfold m_Idx at h; split at h
  · obtain ⟨l, h_l, h⟩ := Option.bind_eq_some_iff.1 h
    simp only [Option.some.injEq, Prod.mk.injEq] at h; obtain ⟨h1, rfl⟩ := h
    exact Ev.pure a1_ok noCall_ok (e_Idx _ _ h1) (.cons (.leaf (asVi_le h_l)) (.cons (.leaf (.refl _)) (.refl _)))
  · cases h

def i_rIdx (e : Int) (l : List Int) (x n i : Int) : St := ⟨[(1, .int .i64 x), (4, .int .i64 e), (7, .vi .i64 l), (8, .int .i64 n), (9, .int .i64 i)], [], 0⟩
theorem i_rIdx_step {R : Type} (l : List Int) (x n i : Int) (K : Kont R) : execK a2 58 0 (ntAt a2.P 58) noCall 0 none (bodyAt a2.P 58 0) (i_rIdx 0 l x n i) (kRes 0 (keep 58 0) K) =
    (bif decide (i < n) then (bif decide (0 ≤ i) && decide (i < l.length) && true then (bif l.getD i.toNat 0 == x then K .ret (i_rIdx i l x n i) else K .normal (i_rIdx 0 l x n (M.w64 (i + 1)))) else none) else K (.exit 0) (i_rIdx 0 l x n i)) := by kernel_rfl

def l_lrIdx : Nat → St → Option (List (Bool × Ex × St))
  | 0, ⟨[(1, .int .i64 x), (4, .int .i64 0), (7, .vi .i64 l), (8, .int .i64 n), (9, .int .i64 0)], [], 0⟩ => some [(M.okN n l && allN l.length (M.ne l x), .exit 0, i_rIdx 0 l x n n), (M.okN n l, .ret, i_rIdx (badAt l.length (M.ne l x) : Nat) l x n (badAt l.length (M.ne l x) : Nat))]
  | _, _ => none
noncomputable def a3 : Cfg := a2.addLL 58 0 l_lrIdx
theorem a3_ok : CfgOK a3 := addLL_ok a2_ok (by kernel_rfl) fun lo st alts ex st' h hp => by
  unfold l_lrIdx at h
  split at h
  · simp only [Option.some.injEq] at h
    subst h
    rename_i x l n
    cases hL : M.okN n l with
    | false => rw [hL] at hp; cases hp
    | true =>
      rw [hL] at hp
      obtain ⟨rfl, hlt⟩ := okN_iff.1 hL
      refine loop_known (m := 0) (kp := keep 58 0) a2_ok noCall_ok ?_
      have main := all_rule (lo := 0) (kp := keep 58 0) (b := execK a2 58 0 (ntAt a2.P 58) noCall 0 none (bodyAt a2.P 58 0)) (K := fun ex st => some (ex, st)) l.length (M.ne l x) (fun i => i_rIdx 0 l x l.length i) 0 (fun i => (.ret, i_rIdx i l x l.length i)) (fun i => .inr rfl) (fun i hi hp K' => by
        have he : (l.getD i 0 == x) = false := by unfold M.ne at hp; simpa using hp
        have he' : (x == l.getD i 0) = false := by rw [BEq.comm]; exact he
        rw [i_rIdx_step, decide_eq_true (by omega : (i : Int) < l.length), decide_eq_true (by omega : (0 : Int) ≤ i), Int.toNat_natCast, he, w64_in (n := (i : Int) + 1) (by omega) (by omega)]
        rfl) (fun i hi hp K' => by
        have he : (l.getD i 0 == x) = true := by unfold M.ne at hp; simpa using hp
        have he' : (x == l.getD i 0) = true := by rw [BEq.comm]; exact he
        rw [i_rIdx_step, decide_eq_true (by omega : (i : Int) < l.length), decide_eq_true (by omega : (0 : Int) ≤ i), Int.toNat_natCast, he]
        rfl) (fun K' => by
        rw [i_rIdx_step, decide_eq_false (by omega : ¬ (l.length : Int) < l.length)]
        rfl)
      cases he : allN l.length (M.ne l x) with
      | true => rw [he] at hp; cases hp; exact main.1 he
      | false => rw [he] at hp; cases hp; exact main.2 he
  · cases h

theorem e_rIdx (l : List Int) (x : Int) (hc : decide (l.length < 4294967296) = true) : Ev (callB a3 noCall 0 58 [.vi .i64 l, .int .i64 x] [] 0) (.int .i64 (M.idx l x)) := by
  rw [show callB a3 noCall 0 58 [.vi .i64 l, .int .i64 x] [] 0 = (bif M.okN l.length l && allN l.length (M.ne l x) then some (.int .i64 (-1), [], 0) else bif M.okN l.length l then some (.int .i64 (badAt l.length (M.ne l x) : Nat), [], 0) else none) by kernel_rfl]
  rw [okN_iff.2 ⟨rfl, of_decide_eq_true hc⟩]
  unfold M.idx
  cases allN l.length (M.ne l x) <;> exact ⟨_, [], 0, rfl, rfl, .refl _⟩
def m_rIdx : List AV → Option (Bool × AV)
  | [l_, .int .i64 x] => (asVi .i64 l_).bind fun l => some (decide (l.length < 4294967296), .int .i64 (M.idx l x))
  | _ => none
noncomputable def a4 : Cfg := a3.add 58 m_rIdx
theorem a4_ok : CfgOK a4 := add_ok a3_ok fun xs v h => by
  unfold m_rIdx at h; split at h
  · obtain ⟨l, h_l, h⟩ := Option.bind_eq_some_iff.1 h
    simp only [Option.some.injEq, Prod.mk.injEq] at h; obtain ⟨h1, rfl⟩ := h
    exact Ev.pure a3_ok noCall_ok (e_rIdx _ _ h1) (.cons (.leaf (asVi_le h_l)) (.cons (.leaf (.refl _)) (.refl _)))
  · cases h

theorem e_Has (l : List Int) (x : Int) (hc : decide (l.length < 4294967296) = true) : Ev (callB a4 noCall 0 71 [.vi .i64 l, .int .i64 x] [] 0) (.bool (decide (M.idx l x ≥ 0))) := by
  rw [show callB a4 noCall 0 71 [.vi .i64 l, .int .i64 x] [] 0 = (bif decide (l.length < 4294967296) && true then some (.bool (decide (M.idx l x ≥ 0)), [], 0) else none) by kernel_rfl]
  rw [hc]
  exact ⟨_, [], 0, rfl, rfl, .refl _⟩
def m_Has : List AV → Option (Bool × AV)
  | [l_, .int .i64 x] => (asVi .i64 l_).bind fun l => some (decide (l.length < 4294967296), .bool (decide (M.idx l x ≥ 0)))
  | _ => none
noncomputable def a5 : Cfg := a4.add 71 m_Has
theorem a5_ok : CfgOK a5 := add_ok a4_ok fun xs v h => by
  unfold m_Has at h; split at h
  · obtain ⟨l, h_l, h⟩ := Option.bind_eq_some_iff.1 h
    simp only [Option.some.injEq, Prod.mk.injEq] at h; obtain ⟨h1, rfl⟩ := h
    exact Ev.pure a4_ok noCall_ok (e_Has _ _ h1) (.cons (.leaf (asVi_le h_l)) (.cons (.leaf (.refl _)) (.refl _)))
  · cases h

theorem e_cIdx (l : List Int) (x : Int) (hc : decide (l.length < 4294967296) = true) : Ev (callB a5 noCall 0 53 [.vi .i64 l, .int .i64 x] [] 0) (.int .i64 (M.idx l x)) := by
  rw [show callB a5 noCall 0 53 [.vi .i64 l, .int .i64 x] [] 0 = (bif decide (l.length < 4294967296) && true then some (.int .i64 (M.idx l x), [], 0) else none) by kernel_rfl]
  rw [hc]
  exact ⟨_, [], 0, rfl, rfl, .refl _⟩
def m_cIdx : List AV → Option (Bool × AV)
  | [l_, .int .i64 x] => (asVi .i64 l_).bind fun l => some (decide (l.length < 4294967296), .int .i64 (M.idx l x))
  | _ => none
noncomputable def a6 : Cfg := a5.add 53 m_cIdx
theorem a6_ok : CfgOK a6 := add_ok a5_ok fun xs v h => by
  unfold m_cIdx at h; split at h
  · obtain ⟨l, h_l, h⟩ := Option.bind_eq_some_iff.1 h
    simp only [Option.some.injEq, Prod.mk.injEq] at h; obtain ⟨h1, rfl⟩ := h
    exact Ev.pure a5_ok noCall_ok (e_cIdx _ _ h1) (.cons (.leaf (asVi_le h_l)) (.cons (.leaf (.refl _)) (.refl _)))
  · cases h

def q_Eq (a b : List Int) (n i : Int) : St := ⟨[(0, .vi .i64 a), (1, .vi .i64 b), (4, .bool false), (12, .int .i64 n), (13, .int .i64 i)], [], 0⟩
theorem q_Eq_step {R : Type} (a b : List Int) (n i : Int) (K : Kont R) : execK a6 36 0 (ntAt a6.P 36) noCall 0 none (bodyAt a6.P 36 0) (q_Eq a b n i) (kRes 0 (keep 36 0) K) =
    (bif decide (i < n) then (bif decide (0 ≤ i) && decide (i < a.length) && true then (bif decide (0 ≤ i) && decide (i < b.length) && true then (bif a.getD i.toNat 0 != b.getD i.toNat 0 then K .ret (q_Eq a b n i) else K .normal (q_Eq a b n (M.w64 (i + 1)))) else none) else none) else K (.exit 0) (q_Eq a b n i)) := by kernel_rfl

def l_lEq : Nat → St → Option (List (Bool × Ex × St))
  | 0, ⟨[(0, .vi .i64 a), (1, .vi .i64 b), (4, .bool false), (12, .int .i64 n), (13, .int .i64 0)], [], 0⟩ => some [(decide ((a.length : Int) = n) && decide ((b.length : Int) = n) && decide (n < 4611686018427387904) && M.eqL a b, .exit 0, q_Eq a b n n), (decide ((a.length : Int) = n) && decide ((b.length : Int) = n) && decide (n < 4611686018427387904), .ret, q_Eq a b n (badAt a.length fun i => a.getD i 0 == b.getD i 0 : Nat))]
  | _, _ => none
noncomputable def a7 : Cfg := a6.addLL 36 0 l_lEq
theorem a7_ok : CfgOK a7 := addLL_ok a6_ok (by kernel_rfl) fun lo st alts ex st' h hp => by
  unfold l_lEq at h
  split at h
  · simp only [Option.some.injEq] at h
    subst h
    rename_i a b n
    cases hL : (decide ((a.length : Int) = n) && decide ((b.length : Int) = n) && decide (n < 4611686018427387904)) with
    | false => rw [hL] at hp; cases hp
    | true =>
      rw [hL] at hp
      simp only [Bool.and_eq_true, decide_eq_true_eq] at hL
      obtain ⟨⟨rfl, hb⟩, hlt⟩ := hL
      have hb' : b.length = a.length := by omega
      refine loop_known (m := 0) (kp := keep 36 0) a6_ok noCall_ok ?_
      have main := all_rule (lo := 0) (kp := keep 36 0) (b := execK a6 36 0 (ntAt a6.P 36) noCall 0 none (bodyAt a6.P 36 0)) (K := fun ex st => some (ex, st)) a.length (fun i => a.getD i 0 == b.getD i 0) (fun i => q_Eq a b a.length i) 0 (fun i => (.ret, q_Eq a b a.length i)) (fun i => .inr rfl) (fun i hi hp K' => by
        rw [q_Eq_step, decide_eq_true (by omega : (i : Int) < a.length), decide_eq_true (by omega : (0 : Int) ≤ i), decide_eq_true (by omega : (i : Int) < b.length), Int.toNat_natCast, show (a.getD i 0 != b.getD i 0) = false by simpa using hp, w64_in (n := (i : Int) + 1) (by omega) (by omega)]
        rfl) (fun i hi hp K' => by
        rw [q_Eq_step, decide_eq_true (by omega : (i : Int) < a.length), decide_eq_true (by omega : (0 : Int) ≤ i), decide_eq_true (by omega : (i : Int) < b.length), Int.toNat_natCast, show (a.getD i 0 != b.getD i 0) = true by simpa using hp]
        rfl) (fun K' => by
        rw [q_Eq_step, decide_eq_false (by omega : ¬ (a.length : Int) < a.length)]
        rfl)
      rw [eqL_iff rfl hb'] at main
      cases he : M.eqL a b with
      | true =>
        rw [he] at hp
        cases hp
        exact main.1 he
      | false =>
        rw [he] at hp
        cases hp
        exact main.2 he
  · cases h

theorem e_Eq (a b : List Int) (hc : decide (a.length < 4294967296) = true) : Ev (callB a7 noCall 0 36 [.vi .i64 a, .vi .i64 b] [] 0) (.bool (M.eqL a b)) := by
  rw [show callB a7 noCall 0 36 [.vi .i64 a, .vi .i64 b] [] 0 = (bif (a.length : Int) != b.length then some (.bool false, [], 0) else bif decide ((a.length : Int) = a.length) && decide ((b.length : Int) = a.length) && decide ((a.length : Int) < 4611686018427387904) && M.eqL a b then some (.bool true, [], 0) else bif decide ((a.length : Int) = a.length) && decide ((b.length : Int) = a.length) && decide ((a.length : Int) < 4611686018427387904) then some (.bool false, [], 0) else none) by kernel_rfl]
  have hc := of_decide_eq_true hc
  by_cases h : a.length = b.length
  · rw [show ((a.length : Int) != b.length) = false by simp [h], decide_eq_true rfl, decide_eq_true (by omega), decide_eq_true (by omega)]
    cases M.eqL a b <;> exact ⟨_, [], 0, rfl, rfl, .refl _⟩
  · have he : M.eqL a b = false := decide_eq_false fun h' => h (by rw [h'])
    rw [show ((a.length : Int) != b.length) = true by simp; omega, he]
    exact ⟨_, [], 0, rfl, rfl, .refl _⟩
def m_Eq : List AV → Option (Bool × AV)
  | [a_, b_] => (asVi .i64 a_).bind fun a => (asVi .i64 b_).bind fun b => some (decide (a.length < 4294967296), .bool (M.eqL a b))
  | _ => none
noncomputable def a8 : Cfg := a7.add 36 m_Eq
theorem a8_ok : CfgOK a8 := add_ok a7_ok fun xs v h => by
  unfold m_Eq at h; split at h
  · obtain ⟨a, h_a, h⟩ := Option.bind_eq_some_iff.1 h
    obtain ⟨b, h_b, h⟩ := Option.bind_eq_some_iff.1 h
    simp only [Option.some.injEq, Prod.mk.injEq] at h; obtain ⟨h1, rfl⟩ := h
    exact Ev.pure a7_ok noCall_ok (e_Eq _ _ h1) (.cons (.leaf (asVi_le h_a)) (.cons (.leaf (asVi_le h_b)) (.refl _)))
  · cases h

def q_rSame (a b : List Int) (n i : Int) : St := ⟨[(0, .vi .i64 a), (1, .vi .i64 b), (4, .bool false), (12, .int .i64 n), (13, .int .i64 i)], [], 0⟩
theorem q_rSame_step {R : Type} (a b : List Int) (n i : Int) (K : Kont R) : execK a8 62 0 (ntAt a8.P 62) noCall 0 none (bodyAt a8.P 62 0) (q_rSame a b n i) (kRes 0 (keep 62 0) K) =
    (bif decide (i < n) then (bif decide (0 ≤ i) && decide (i < a.length) && true then (bif decide (0 ≤ i) && decide (i < b.length) && true then (bif a.getD i.toNat 0 != b.getD i.toNat 0 then K .ret (q_rSame a b n i) else K .normal (q_rSame a b n (M.w64 (i + 1)))) else none) else none) else K (.exit 0) (q_rSame a b n i)) := by kernel_rfl

def l_lrSame : Nat → St → Option (List (Bool × Ex × St))
  | 0, ⟨[(0, .vi .i64 a), (1, .vi .i64 b), (4, .bool false), (12, .int .i64 n), (13, .int .i64 0)], [], 0⟩ => some [(decide ((a.length : Int) = n) && decide ((b.length : Int) = n) && decide (n < 4611686018427387904) && M.eqL a b, .exit 0, q_rSame a b n n), (decide ((a.length : Int) = n) && decide ((b.length : Int) = n) && decide (n < 4611686018427387904), .ret, q_rSame a b n (badAt a.length fun i => a.getD i 0 == b.getD i 0 : Nat))]
  | _, _ => none
noncomputable def a9 : Cfg := a8.addLL 62 0 l_lrSame
theorem a9_ok : CfgOK a9 := addLL_ok a8_ok (by kernel_rfl) fun lo st alts ex st' h hp => by
  unfold l_lrSame at h
  split at h
  · simp only [Option.some.injEq] at h
    subst h
    rename_i a b n
    cases hL : (decide ((a.length : Int) = n) && decide ((b.length : Int) = n) && decide (n < 4611686018427387904)) with
    | false => rw [hL] at hp; cases hp
    | true =>
      rw [hL] at hp
      simp only [Bool.and_eq_true, decide_eq_true_eq] at hL
      obtain ⟨⟨rfl, hb⟩, hlt⟩ := hL
      have hb' : b.length = a.length := by omega
      refine loop_known (m := 0) (kp := keep 62 0) a8_ok noCall_ok ?_
      have main := all_rule (lo := 0) (kp := keep 62 0) (b := execK a8 62 0 (ntAt a8.P 62) noCall 0 none (bodyAt a8.P 62 0)) (K := fun ex st => some (ex, st)) a.length (fun i => a.getD i 0 == b.getD i 0) (fun i => q_rSame a b a.length i) 0 (fun i => (.ret, q_rSame a b a.length i)) (fun i => .inr rfl) (fun i hi hp K' => by
        rw [q_rSame_step, decide_eq_true (by omega : (i : Int) < a.length), decide_eq_true (by omega : (0 : Int) ≤ i), decide_eq_true (by omega : (i : Int) < b.length), Int.toNat_natCast, show (a.getD i 0 != b.getD i 0) = false by simpa using hp, w64_in (n := (i : Int) + 1) (by omega) (by omega)]
        rfl) (fun i hi hp K' => by
        rw [q_rSame_step, decide_eq_true (by omega : (i : Int) < a.length), decide_eq_true (by omega : (0 : Int) ≤ i), decide_eq_true (by omega : (i : Int) < b.length), Int.toNat_natCast, show (a.getD i 0 != b.getD i 0) = true by simpa using hp]
        rfl) (fun K' => by
        rw [q_rSame_step, decide_eq_false (by omega : ¬ (a.length : Int) < a.length)]
        rfl)
      rw [eqL_iff rfl hb'] at main
      cases he : M.eqL a b with
      | true =>
        rw [he] at hp
        cases hp
        exact main.1 he
      | false =>
        rw [he] at hp
        cases hp
        exact main.2 he
  · cases h

theorem e_rSame (a b : List Int) (hc : decide (a.length < 4294967296) = true) : Ev (callB a9 noCall 0 62 [.vi .i64 a, .vi .i64 b] [] 0) (.bool (M.eqL a b)) := by
  rw [show callB a9 noCall 0 62 [.vi .i64 a, .vi .i64 b] [] 0 = (bif (a.length : Int) != b.length then some (.bool false, [], 0) else bif decide ((a.length : Int) = a.length) && decide ((b.length : Int) = a.length) && decide ((a.length : Int) < 4611686018427387904) && M.eqL a b then some (.bool true, [], 0) else bif decide ((a.length : Int) = a.length) && decide ((b.length : Int) = a.length) && decide ((a.length : Int) < 4611686018427387904) then some (.bool false, [], 0) else none) by kernel_rfl]
  have hc := of_decide_eq_true hc
  by_cases h : a.length = b.length
  · rw [show ((a.length : Int) != b.length) = false by simp [h], decide_eq_true rfl, decide_eq_true (by omega), decide_eq_true (by omega)]
    cases M.eqL a b <;> exact ⟨_, [], 0, rfl, rfl, .refl _⟩
  · have he : M.eqL a b = false := decide_eq_false fun h' => h (by rw [h'])
    rw [show ((a.length : Int) != b.length) = true by simp; omega, he]
    exact ⟨_, [], 0, rfl, rfl, .refl _⟩
def m_rSame : List AV → Option (Bool × AV)
  | [a_, b_] => (asVi .i64 a_).bind fun a => (asVi .i64 b_).bind fun b => some (decide (a.length < 4294967296), .bool (M.eqL a b))
  | _ => none
noncomputable def a10 : Cfg := a9.add 62 m_rSame
theorem a10_ok : CfgOK a10 := add_ok a9_ok fun xs v h => by
  unfold m_rSame at h; split at h
  · obtain ⟨a, h_a, h⟩ := Option.bind_eq_some_iff.1 h
    obtain ⟨b, h_b, h⟩ := Option.bind_eq_some_iff.1 h
    simp only [Option.some.injEq, Prod.mk.injEq] at h; obtain ⟨h1, rfl⟩ := h
    exact Ev.pure a9_ok noCall_ok (e_rSame _ _ h1) (.cons (.leaf (asVi_le h_a)) (.cons (.leaf (asVi_le h_b)) (.refl _)))
  · cases h

theorem idx_lt {l : List Int} {x : Int} : M.idx l x < l.length := by
  unfold M.idx
  cases h : allN l.length (M.ne l x) with
  | true => simp; omega
  | false =>
    obtain ⟨h1, _⟩ := badAt_spec h
    simp only [cond_false]; omega
theorem idx_spec {l : List Int} {x : Int} (h : 0 ≤ M.idx l x) : l.getD (M.idx l x).toNat 0 = x ∧ ∀ i, i < (M.idx l x).toNat → l.getD i 0 ≠ x := by
  unfold M.idx at h ⊢
  cases ha : allN l.length (M.ne l x) with
  | true => rw [ha] at h; simp at h
  | false =>
    obtain ⟨h1, h2, h3⟩ := badAt_spec ha
    rw [cond_false, Int.toNat_natCast]
    generalize badAt l.length (M.ne l x) = k at h1 h2 h3
    refine ⟨by unfold M.ne at h2; simpa using h2, fun i hi => ?_⟩
    have := h3 i hi
    unfold M.ne at this; simpa using this
theorem idx_neg {l : List Int} {x : Int} (h : M.idx l x < 0) : ∀ i, i < l.length → l.getD i 0 ≠ x := by
  unfold M.idx at h
  cases ha : allN l.length (M.ne l x) with
  | false => rw [ha] at h; simp at h; omega
  | true =>
    intro i hi
    have := allN_iff.1 ha i hi
    unfold M.ne at this; simpa using this
theorem idx_of {l : List Int} {x : Int} {i : Nat} (hi : i < l.length) (hx : l.getD i 0 = x) (hf : ∀ j, j < i → l.getD j 0 ≠ x) : M.idx l x = i := by
  by_cases h : 0 ≤ M.idx l x
  · obtain ⟨h1, h2⟩ := idx_spec h
    by_cases hlt : (M.idx l x).toNat < i
    · exact absurd h1 (hf _ hlt)
    · by_cases hgt : i < (M.idx l x).toNat
      · exact absurd hx (h2 i hgt)
      · omega
  · exact absurd hx (idx_neg (by omega) i hi)
theorem idx_of_not {l : List Int} {x : Int} (h : ∀ i, i < l.length → l.getD i 0 ≠ x) : M.idx l x = -1 := by
  unfold M.idx
  have : allN l.length (M.ne l x) = true := allN_iff.2 fun i hi => by unfold M.ne; simpa using h i hi
  rw [this]; rfl
theorem getD_take {l : List Int} {i j : Nat} (h : j < i) : (l.take i).getD j 0 = l.getD j 0 := by
  rw [List.getD_eq_getElem?_getD, List.getElem?_take_of_lt h, List.getD_eq_getElem?_getD]
theorem pV_pW {l : List Int} {i : Nat} (hi : i < l.length) : M.pW l i = M.pV l i := by
  unfold M.pW M.pV
  congr 1
  have hlen : (l.take i).length = i := by rw [List.length_take]; omega
  by_cases h : 0 ≤ M.idx (l.take i) (l.getD i 0)
  · have hlt := idx_lt (l := l.take i) (x := l.getD i 0)
    rw [hlen] at hlt
    obtain ⟨h1, _⟩ := idx_spec h
    rw [getD_take (by omega)] at h1
    have hne : ¬ M.idx l (l.getD i 0) = i := fun he => by
      obtain ⟨_, g2⟩ := idx_spec (l := l) (x := l.getD i 0) (by omega)
      exact g2 (M.idx (l.take i) (l.getD i 0)).toNat (by omega) h1
    rw [decide_eq_true (show M.idx (l.take i) (l.getD i 0) ≥ 0 from h), decide_eq_false hne]; rfl
  · have he : M.idx l (l.getD i 0) = i := idx_of hi rfl fun j hj => by
      have := idx_neg (l := l.take i) (x := l.getD i 0) (by omega) j (by omega)
      rwa [getD_take hj] at this
    rw [decide_eq_false h, decide_eq_true he]; rfl
theorem allN_congr {n : Nat} {p q : Nat → Bool} (h : ∀ i, i < n → p i = q i) : allN n p = allN n q := by
  rw [Bool.eq_iff_iff, allN_iff, allN_iff]
  exact ⟨fun a i hi => by rw [← h i hi]; exact a i hi, fun a i hi => by rw [h i hi]; exact a i hi⟩

def w_cV (l : List Int) (n i : Int) : St := ⟨[(0, .vi .i64 l), (2, .bool false), (13, .vi .i64 l), (14, .int .i64 n), (15, .int .i64 i)], [], 0⟩
theorem w_cV_step {R : Type} (l : List Int) (n i : Int) (K : Kont R) : execK a10 40 0 (ntAt a10.P 40) noCall 0 none (bodyAt a10.P 40 0) (w_cV l n i) (kRes 0 (keep 40 0) K) =
    (bif decide (i < n) then (bif decide (0 ≤ i) && decide (i < l.length) && true then (bif !decide (l.getD i.toNat 0 < 1) then (bif !decide (l.getD i.toNat 0 > 8) then (bif decide (0 ≤ i) && decide (i ≤ l.length) && true then (bif decide ((l.take (i.toNat * 1)).length < 4294967296) && true then (bif decide (M.idx (l.take (i.toNat * 1)) (l.getD i.toNat 0) ≥ 0) then K .ret (w_cV l n i) else K .normal (w_cV l n (M.w64 (i + 1)))) else none) else none) else K .ret (w_cV l n i)) else K .ret (w_cV l n i)) else none) else K (.exit 0) (w_cV l n i)) := by kernel_rfl

def l_lcV : Nat → St → Option (List (Bool × Ex × St))
  | 0, ⟨[(0, .vi .i64 l0), (2, .bool false), (13, .vi .i64 l), (14, .int .i64 n), (15, .int .i64 0)], [], 0⟩ => some [(M.okN n l && decide (l0 = l) && allN l.length (M.pW l), .exit 0, w_cV l n n), (M.okN n l && decide (l0 = l), .ret, w_cV l n (badAt l.length (M.pW l) : Nat))]
  | _, _ => none
noncomputable def a11 : Cfg := a10.addLL 40 0 l_lcV
theorem a11_ok : CfgOK a11 := addLL_ok a10_ok (by kernel_rfl) fun lo st alts ex st' h hp => by
  unfold l_lcV at h
  split at h
  · simp only [Option.some.injEq] at h
    subst h
    rename_i l0 l n
    cases hL : (M.okN n l && decide (l0 = l)) with
    | false => rw [hL] at hp; cases hp
    | true =>
      rw [hL] at hp
      rw [Bool.and_eq_true] at hL
      have := of_decide_eq_true hL.2
      subst this
      obtain ⟨rfl, hlt⟩ := okN_iff.1 hL.1
      refine loop_known (m := 0) (kp := keep 40 0) a10_ok noCall_ok ?_
      have main := all_rule (lo := 0) (kp := keep 40 0) (b := execK a10 40 0 (ntAt a10.P 40) noCall 0 none (bodyAt a10.P 40 0)) (K := fun ex st => some (ex, st)) l0.length (M.pW l0) (fun i => w_cV l0 l0.length i) 0 (fun i => (.ret, w_cV l0 l0.length i)) (fun i => .inr rfl) (fun i hi hp K' => by
        unfold M.pW at hp
        simp only [Bool.and_eq_true, Bool.not_eq_true'] at hp
        obtain ⟨⟨c1, c2⟩, c3⟩ := hp
        rw [w_cV_step, decide_eq_true (by omega : (i : Int) < l0.length), decide_eq_true (by omega : (0 : Int) ≤ i), Int.toNat_natCast, c1, c2, decide_eq_true (by omega : (i : Int) ≤ l0.length), Nat.mul_one, decide_eq_true (by rw [List.length_take]; omega : (l0.take i).length < 4294967296), c3, w64_in (n := (i : Int) + 1) (by omega) (by omega)]
        rfl) (fun i hi hp K' => by
        unfold M.pW at hp
        rw [w_cV_step, decide_eq_true (by omega : (i : Int) < l0.length), decide_eq_true (by omega : (0 : Int) ≤ i), Int.toNat_natCast]
        cases c1 : decide (l0.getD i 0 < 1) with
        | true => rfl
        | false => cases c2 : decide (l0.getD i 0 > 8) with
          | true => rfl
          | false =>
            rw [c1, c2] at hp
            simp only [Bool.not_false, Bool.true_and] at hp
            rw [decide_eq_true (by omega : (i : Int) ≤ l0.length), Nat.mul_one, decide_eq_true (by rw [List.length_take]; omega : (l0.take i).length < 4294967296), show decide (M.idx (l0.take i) (l0.getD i 0) ≥ 0) = true by simpa using hp]
            rfl) (fun K' => by
        rw [w_cV_step, decide_eq_false (by omega : ¬ (l0.length : Int) < l0.length)]
        rfl)
      cases he : allN l0.length (M.pW l0) with
      | true => rw [he] at hp; cases hp; exact main.1 he
      | false => rw [he] at hp; cases hp; exact main.2 he
  · cases h

theorem e_cValid (l : List Int) (hc : decide (l.length < 4294967296) = true) : Ev (callB a11 noCall 0 40 [.vi .i64 l] [] 0) (.bool (M.mapV l)) := by
  rw [show callB a11 noCall 0 40 [.vi .i64 l] [] 0 = (bif !decide ((l.length : Int) < 1) then (bif decide ((l.length : Int) > 8) then some (.bool false, [], 0) else bif M.okN l.length l && decide (l = l) && allN l.length (M.pW l) then some (.bool true, [], 0) else bif M.okN l.length l && decide (l = l) then some (.bool false, [], 0) else none) else some (.bool false, [], 0)) by kernel_rfl]
  have hc := of_decide_eq_true hc
  have hV : M.mapV l = (decide (1 ≤ l.length) && decide (l.length ≤ 8) && allN l.length (M.pW l)) := by unfold M.mapV; rw [allN_congr fun i hi => pV_pW hi]
  rw [okN_iff.2 ⟨rfl, hc⟩, decide_eq_true (rfl : l = l), hV]
  by_cases h1 : l.length < 1
  · rw [decide_eq_true (by omega : (l.length : Int) < 1), decide_eq_false (by omega : ¬ 1 ≤ l.length)]; exact ⟨_, [], 0, rfl, rfl, .refl _⟩
  · by_cases h2 : l.length > 8
    · rw [decide_eq_false (by omega : ¬ (l.length : Int) < 1), decide_eq_true (by omega : (l.length : Int) > 8), decide_eq_true (by omega : 1 ≤ l.length), decide_eq_false (by omega : ¬ l.length ≤ 8)]; exact ⟨_, [], 0, rfl, rfl, .refl _⟩
    · rw [decide_eq_false (by omega : ¬ (l.length : Int) < 1), decide_eq_false (by omega : ¬ (l.length : Int) > 8), decide_eq_true (by omega : 1 ≤ l.length), decide_eq_true (by omega : l.length ≤ 8)]
      cases allN l.length (M.pW l) <;> exact ⟨_, [], 0, rfl, rfl, .refl _⟩
def m_cValid : List AV → Option (Bool × AV)
  | [l_] => (asVi .i64 l_).bind fun l => some (decide (l.length < 4294967296), .bool (M.mapV l))
  | _ => none
noncomputable def a12 : Cfg := a11.add 40 m_cValid
theorem a12_ok : CfgOK a12 := add_ok a11_ok fun xs v h => by
  unfold m_cValid at h; split at h
  · obtain ⟨l, h_l, h⟩ := Option.bind_eq_some_iff.1 h
    simp only [Option.some.injEq, Prod.mk.injEq] at h; obtain ⟨h1, rfl⟩ := h
    exact Ev.pure a11_ok noCall_ok (e_cValid _ h1) (.cons (.leaf (asVi_le h_l)) (.refl _))
  · cases h

def w_rV (l : List Int) (n i : Int) : St := ⟨[(0, .vi .i64 l), (2, .bool false), (5, .vi .i64 l), (6, .int .i64 n), (7, .int .i64 i)], [], 0⟩
theorem w_rV_step {R : Type} (l : List Int) (n i : Int) (K : Kont R) : execK a12 42 0 (ntAt a12.P 42) noCall 0 none (bodyAt a12.P 42 0) (w_rV l n i) (kRes 0 (keep 42 0) K) =
    (bif decide (i < n) then (bif decide (0 ≤ i) && decide (i < l.length) && true then (bif !decide (l.getD i.toNat 0 < 1) then (bif !decide (l.getD i.toNat 0 > 8) then (bif decide (l.length < 4294967296) && true then (bif M.idx l (l.getD i.toNat 0) != i then K .ret (w_rV l n i) else K .normal (w_rV l n (M.w64 (i + 1)))) else none) else K .ret (w_rV l n i)) else K .ret (w_rV l n i)) else none) else K (.exit 0) (w_rV l n i)) := by kernel_rfl

def l_lrV : Nat → St → Option (List (Bool × Ex × St))
  | 0, ⟨[(0, .vi .i64 l0), (2, .bool false), (5, .vi .i64 l), (6, .int .i64 n), (7, .int .i64 0)], [], 0⟩ => some [(M.okN n l && decide (l0 = l) && allN l.length (M.pV l), .exit 0, w_rV l n n), (M.okN n l && decide (l0 = l), .ret, w_rV l n (badAt l.length (M.pV l) : Nat))]
  | _, _ => none
noncomputable def a13 : Cfg := a12.addLL 42 0 l_lrV
theorem a13_ok : CfgOK a13 := addLL_ok a12_ok (by kernel_rfl) fun lo st alts ex st' h hp => by
  unfold l_lrV at h
  split at h
  · simp only [Option.some.injEq] at h
    subst h
    rename_i l0 l n
    cases hL : (M.okN n l && decide (l0 = l)) with
    | false => rw [hL] at hp; cases hp
    | true =>
      rw [hL] at hp
      rw [Bool.and_eq_true] at hL
      have := of_decide_eq_true hL.2
      subst this
      obtain ⟨rfl, hlt⟩ := okN_iff.1 hL.1
      refine loop_known (m := 0) (kp := keep 42 0) a12_ok noCall_ok ?_
      have main := all_rule (lo := 0) (kp := keep 42 0) (b := execK a12 42 0 (ntAt a12.P 42) noCall 0 none (bodyAt a12.P 42 0)) (K := fun ex st => some (ex, st)) l0.length (M.pV l0) (fun i => w_rV l0 l0.length i) 0 (fun i => (.ret, w_rV l0 l0.length i)) (fun i => .inr rfl) (fun i hi hp K' => by
        unfold M.pV at hp
        simp only [Bool.and_eq_true, Bool.not_eq_true'] at hp
        obtain ⟨⟨c1, c2⟩, c3⟩ := hp
        rw [w_rV_step, decide_eq_true (by omega : (i : Int) < l0.length), decide_eq_true (by omega : (0 : Int) ≤ i), Int.toNat_natCast, c1, c2, decide_eq_true hlt, show (M.idx l0 (l0.getD i 0) != (i : Int)) = false by simpa using c3, w64_in (n := (i : Int) + 1) (by omega) (by omega)]
        rfl) (fun i hi hp K' => by
        unfold M.pV at hp
        rw [w_rV_step, decide_eq_true (by omega : (i : Int) < l0.length), decide_eq_true (by omega : (0 : Int) ≤ i), Int.toNat_natCast]
        cases c1 : decide (l0.getD i 0 < 1) with
        | true => rfl
        | false => cases c2 : decide (l0.getD i 0 > 8) with
          | true => rfl
          | false =>
            rw [c1, c2] at hp
            simp only [Bool.not_false, Bool.true_and] at hp
            rw [decide_eq_true hlt, show (M.idx l0 (l0.getD i 0) != (i : Int)) = true by simpa using hp]
            rfl) (fun K' => by
        rw [w_rV_step, decide_eq_false (by omega : ¬ (l0.length : Int) < l0.length)]
        rfl)
      cases he : allN l0.length (M.pV l0) with
      | true => rw [he] at hp; cases hp; exact main.1 he
      | false => rw [he] at hp; cases hp; exact main.2 he
  · cases h

theorem e_rMapValid (l : List Int) (hc : decide (l.length < 4294967296) = true) : Ev (callB a13 noCall 0 42 [.vi .i64 l] [] 0) (.bool (M.mapV l)) := by
  rw [show callB a13 noCall 0 42 [.vi .i64 l] [] 0 = (bif M.okN l.length l && decide (l = l) && allN l.length (M.pV l) then (bif decide ((l.length : Int) ≥ 1) then some (.bool (decide ((l.length : Int) ≤ 8)), [], 0) else some (.bool false, [], 0)) else bif M.okN l.length l && decide (l = l) then some (.bool false, [], 0) else none) by kernel_rfl]
  have hc := of_decide_eq_true hc
  unfold M.mapV
  rw [okN_iff.2 ⟨rfl, hc⟩, decide_eq_true (rfl : l = l)]
  have e1 : decide ((l.length : Int) ≥ 1) = decide (1 ≤ l.length) := by by_cases h : 1 ≤ l.length <;> simp [h] <;> omega
  have e2 : decide ((l.length : Int) ≤ 8) = decide (l.length ≤ 8) := by by_cases h : l.length ≤ 8 <;> simp [h] <;> omega
  rw [e1, e2]
  cases allN l.length (M.pV l) <;> cases decide (1 ≤ l.length) <;> cases decide (l.length ≤ 8) <;> exact ⟨_, [], 0, rfl, rfl, .refl _⟩
def m_rMapValid : List AV → Option (Bool × AV)
  | [l_] => (asVi .i64 l_).bind fun l => some (decide (l.length < 4294967296), .bool (M.mapV l))
  | _ => none
noncomputable def a14 : Cfg := a13.add 42 m_rMapValid
theorem a14_ok : CfgOK a14 := add_ok a13_ok fun xs v h => by
  unfold m_rMapValid at h; split at h
  · obtain ⟨l, h_l, h⟩ := Option.bind_eq_some_iff.1 h
    simp only [Option.some.injEq, Prod.mk.injEq] at h; obtain ⟨h1, rfl⟩ := h
    exact Ev.pure a13_ok noCall_ok (e_rMapValid _ h1) (.cons (.leaf (asVi_le h_l)) (.refl _))
  · cases h

namespace M
def inC (c : Int) : Bool := !decide (c < -131072) && !decide (c > 131072)
def mtxV (n m : Int) (l : List Int) : Bool := decide (1 ≤ n) && decide (n ≤ 8) && decide (1 ≤ m) && decide (m ≤ 8) && decide ((l.length : Int) = n * m) && l.all inC
end M

def x_mValid (l : List Int) (n i : Int) : St := ⟨[(2, .bool false), (35, .vi .i64 l), (36, .int .i64 n), (37, .int .i64 i)], [], 0⟩
theorem x_mValid_step {R : Type} (l : List Int) (n i : Int) (K : Kont R) : execK a14 88 0 (ntAt a14.P 88) noCall 0 none (bodyAt a14.P 88 0) (x_mValid l n i) (kRes 0 (keep 88 0) K) =
    (bif decide (i < n) then (bif decide (0 ≤ i) && decide (i < l.length) && true then (bif !decide (l.getD i.toNat 0 < -131072) then (bif decide (l.getD i.toNat 0 > 131072) then K .ret (x_mValid l n i) else K .normal (x_mValid l n (M.w64 (i + 1)))) else K .ret (x_mValid l n i)) else none) else K (.exit 0) (x_mValid l n i)) := by kernel_rfl

def l_lmValid : Nat → St → Option (List (Bool × Ex × St))
  | 0, ⟨[(2, .bool false), (35, .vi .i64 l), (36, .int .i64 n), (37, .int .i64 0)], [], 0⟩ => some [(M.okN n l && l.all M.inC, .exit 0, x_mValid l n n), (M.okN n l, .ret, x_mValid l n (badAt l.length fun i => M.inC (l.getD i 0) : Nat))]
  | _, _ => none
noncomputable def a15 : Cfg := a14.addLL 88 0 l_lmValid
theorem a15_ok : CfgOK a15 := addLL_ok a14_ok (by kernel_rfl) fun lo st alts ex st' h hp => by
  unfold l_lmValid at h
  split at h
  · simp only [Option.some.injEq] at h
    subst h
    rename_i l n
    cases hL : M.okN n l with
    | false => rw [hL] at hp; cases hp
    | true =>
      rw [hL] at hp
      obtain ⟨rfl, hlt⟩ := okN_iff.1 hL
      refine loop_known (m := 0) (kp := keep 88 0) a14_ok noCall_ok ?_
      have main := all_rule (lo := 0) (kp := keep 88 0) (b := execK a14 88 0 (ntAt a14.P 88) noCall 0 none (bodyAt a14.P 88 0)) (K := fun ex st => some (ex, st)) l.length (fun i => M.inC (l.getD i 0)) (fun i => x_mValid l l.length i) 0 (fun i => (.ret, x_mValid l l.length i)) (fun i => .inr rfl) (fun i hi hp K' => by
        unfold M.inC at hp
        simp only [Bool.and_eq_true, Bool.not_eq_true'] at hp
        rw [x_mValid_step, decide_eq_true (by omega : (i : Int) < l.length), decide_eq_true (by omega : (0 : Int) ≤ i), Int.toNat_natCast, hp.1, hp.2, w64_in (n := (i : Int) + 1) (by omega) (by omega)]
        rfl) (fun i hi hp K' => by
        unfold M.inC at hp
        rw [x_mValid_step, decide_eq_true (by omega : (i : Int) < l.length), decide_eq_true (by omega : (0 : Int) ≤ i), Int.toNat_natCast]
        cases c1 : decide (l.getD i 0 < -131072) with
        | true => rfl
        | false =>
          rw [c1] at hp
          rw [show decide (l.getD i 0 > 131072) = true by simpa using hp]
          rfl) (fun K' => by
        rw [x_mValid_step, decide_eq_false (by omega : ¬ (l.length : Int) < l.length)]
        rfl)
      rw [allN_getD] at main
      cases he : l.all M.inC with
      | true => rw [he] at hp; cases hp; exact main.1 he
      | false => rw [he] at hp; cases hp; exact main.2 he
  · cases h

theorem e_mValid (n m : Int) (l : List Int) (hc : decide (l.length < 4294967296) = true) : Ev (callB a15 noCall 0 88 [.agg [.int .i64 n, .int .i64 m, .vi .i64 l]] [] 0) (.bool (M.mtxV n m l)) := by
  rw [show callB a15 noCall 0 88 [.agg [.int .i64 n, .int .i64 m, .vi .i64 l]] [] 0 = (bif !decide (n < 1) then (bif !decide (n > 8) then (bif !decide (m < 1) then (bif !decide (m > 8) then (bif (l.length : Int) != M.w64 (n * m) then some (.bool false, [], 0) else bif M.okN l.length l && l.all M.inC then some (.bool true, [], 0) else bif M.okN l.length l then some (.bool false, [], 0) else none) else some (.bool false, [], 0)) else some (.bool false, [], 0)) else some (.bool false, [], 0)) else some (.bool false, [], 0)) by kernel_rfl]
  have hc := of_decide_eq_true hc
  unfold M.mtxV
  rw [okN_iff.2 ⟨rfl, hc⟩]
  by_cases h1 : n < 1
  · rw [decide_eq_true h1, decide_eq_false (by omega : ¬ 1 ≤ n)]; exact ⟨_, [], 0, rfl, rfl, .refl _⟩
  · by_cases h2 : n > 8
    · rw [decide_eq_false h1, decide_eq_true h2, decide_eq_false (by omega : ¬ n ≤ 8), Bool.and_false]; exact ⟨_, [], 0, rfl, rfl, .refl _⟩
    · by_cases h3 : m < 1
      · rw [decide_eq_false h1, decide_eq_false h2, decide_eq_true h3, decide_eq_false (by omega : ¬ 1 ≤ m), Bool.and_false]; exact ⟨_, [], 0, rfl, rfl, .refl _⟩
      · by_cases h4 : m > 8
        · rw [decide_eq_false h1, decide_eq_false h2, decide_eq_false h3, decide_eq_true h4, decide_eq_false (by omega : ¬ m ≤ 8), Bool.and_false]; exact ⟨_, [], 0, rfl, rfl, .refl _⟩
        · have b0 : 0 ≤ n * m := Int.mul_nonneg (by omega) (by omega)
          have b1 : n * m ≤ 8 * 8 := Int.mul_le_mul (by omega) (by omega) (by omega) (by omega)
          rw [decide_eq_false h1, decide_eq_false h2, decide_eq_false h3, decide_eq_false h4, w64_in (n := n * m) (by omega) (by omega), decide_eq_true (by omega : 1 ≤ n), decide_eq_true (by omega : n ≤ 8), decide_eq_true (by omega : 1 ≤ m), decide_eq_true (by omega : m ≤ 8)]
          by_cases h5 : (l.length : Int) = n * m
          · rw [show ((l.length : Int) != n * m) = false by simp [h5], decide_eq_true h5]
            cases l.all M.inC <;> exact ⟨_, [], 0, rfl, rfl, .refl _⟩
          · rw [show ((l.length : Int) != n * m) = true by simp [h5], decide_eq_false h5]
            exact ⟨_, [], 0, rfl, rfl, .refl _⟩
def m_mValid : List AV → Option (Bool × AV)
  | [.agg [.int .i64 n, .int .i64 m, l_]] => (asVi .i64 l_).bind fun l => some (decide (l.length < 4294967296), .bool (M.mtxV n m l))
  | _ => none
noncomputable def a16 : Cfg := a15.add 88 m_mValid
theorem a16_ok : CfgOK a16 := add_ok a15_ok fun xs v h => by
  unfold m_mValid at h; split at h
  · obtain ⟨l, h_l, h⟩ := Option.bind_eq_some_iff.1 h
    simp only [Option.some.injEq, Prod.mk.injEq] at h; obtain ⟨h1, rfl⟩ := h
    exact Ev.pure a15_ok noCall_ok (e_mValid _ _ _ h1) (.cons (.agg (.cons (.refl _) (.cons (.refl _) (.cons (asVi_le h_l) (.refl _))))) (.refl _))
  · cases h

def x_rmValid (l : List Int) (n i : Int) : St := ⟨[(2, .bool false), (35, .vi .i64 l), (36, .int .i64 n), (37, .int .i64 i)], [], 0⟩
def l_lrmValid : Nat → St → Option (List (Bool × Ex × St))
  | 0, ⟨[(2, .bool false), (35, .vi .i64 l), (36, .int .i64 n), (37, .int .i64 0)], [], 0⟩ => some [(M.okN n l && l.all M.inC, .exit 0, x_rmValid l n n), (M.okN n l, .ret, x_rmValid l n (badAt l.length fun i => M.inC (l.getD i 0) : Nat))]
  | _, _ => none
noncomputable def a17 : Cfg := a16

theorem a17_ok : CfgOK a17 := a16_ok

def m_rmValid : List AV → Option (Bool × AV)
  | [.agg [.int .i64 n, .int .i64 m, l_]] => (asVi .i64 l_).bind fun l => some (decide (l.length < 4294967296), .bool (M.mtxV n m l))
  | _ => none
noncomputable def a18 : Cfg := a17

theorem a18_ok : CfgOK a18 := a17_ok

end Go.Proofs.Ytooiechjanmdjaa
