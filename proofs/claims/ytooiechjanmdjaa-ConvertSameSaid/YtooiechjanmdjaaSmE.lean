/- The models of samples: blocks. -/
import Derived.Test.YtooiechjanmdjaaSmD
namespace Go.Proofs.Ytooiechjanmdjaa
open Am
set_option maxRecDepth 100000
set_option linter.unusedVariables false
set_option linter.unusedSimpArgs false

namespace M
def eqL (a b : List Int) : Bool := decide (a = b)
def valid (c : Int) (l : List Int) : Bool := bif decide (c < 1) then false else bif decide (c > 8) then false else bif (l.length : Int).tmod c != 0 then false else bif decide (w64 ((l.length : Int).tdiv c) > 65536) then false else l.all smp
def frames (c : Int) (l : List Int) : Int := bif valid c l then w64 ((l.length : Int).tdiv c) else 0
def silE (c n : Int) : Int := bif !decide (c < 1) && !decide (c > 8) && !decide (n < 0) && !decide (n > 65536) then 0 else 2
def silC (c n : Int) : Int := bif silE c n == 0 then c else 0
def silD (c n : Int) : List Int := bif silE c n == 0 then List.replicate (c * n).toNat 0 else []
end M
theorem eqL_iff {n : Nat} {a b : List Int} (ha : a.length = n) (hb : b.length = n) : allN n (fun i => a.getD i 0 == b.getD i 0) = M.eqL a b := by
  unfold M.eqL
  rw [Bool.eq_iff_iff, allN_iff, decide_eq_true_iff]
  constructor
  · intro h
    refine List.ext_getElem (by omega) fun i h1 h2 => ?_
    have := h i (by omega)
    simpa [List.getD_eq_getElem?_getD, List.getElem?_eq_getElem h1, List.getElem?_eq_getElem h2] using this
  · rintro rfl i _
    simp

theorem e_Size (k : Int) : Ev (callB t4 noCall 0 39 [.int .i64 k] [] 0) (.int .i64 (M.fsz k)) := by
  rw [show callB t4 noCall 0 39 [.int .i64 k] [] 0 = (bif k == 1 then some (AV.int .i64 1, [], 0) else bif k == 2 then some (AV.int .i64 2, [], 0) else bif k == 3 then some (AV.int .i64 2, [], 0) else bif k == 4 then some (AV.int .i64 3, [], 0) else bif k == 5 then some (AV.int .i64 3, [], 0) else bif k == 6 then some (AV.int .i64 4, [], 0) else bif k == 7 then some (AV.int .i64 4, [], 0) else some (AV.int .i64 0, [], 0)) by kernel_rfl]
  rcases kinds k with rfl | rfl | rfl | rfl | rfl | rfl | rfl | ⟨h1, h2, h3, h4, h5, h6, h7⟩
  · exact ⟨_, [], 0, rfl, rfl, .refl _⟩
  · exact ⟨_, [], 0, rfl, rfl, .refl _⟩
  · exact ⟨_, [], 0, rfl, rfl, .refl _⟩
  · exact ⟨_, [], 0, rfl, rfl, .refl _⟩
  · exact ⟨_, [], 0, rfl, rfl, .refl _⟩
  · exact ⟨_, [], 0, rfl, rfl, .refl _⟩
  · exact ⟨_, [], 0, rfl, rfl, .refl _⟩
  · have : M.fsz k = 0 := by unfold M.fsz; simp only [h1, h2, h3, h4, h5, h6, h7, cond_false]
    rw [this]
    simp only [h1, h2, h3, h4, h5, h6, h7, cond_false]
    exact ⟨_, [], 0, rfl, rfl, .refl _⟩
def m_Size : List AV → Option (Bool × AV)
  | [.int .i64 k] => some (true, .int .i64 (M.fsz k))
  | _ => none
noncomputable def t5 : Cfg := t4.add 39 m_Size
theorem t5_ok : CfgOK t5 := add_ok t4_ok fun xs v h => by
  unfold m_Size at h; split at h
  · simp only [Option.some.injEq, Prod.mk.injEq, true_and] at h; subst h
    exact Ev.pure t4_ok noCall_ok (e_Size _) (.refl _)
  · cases h

def q_SameData (a b : List Int) (n i : Int) : St := ⟨[(0, .vi .i32 a), (1, .vi .i32 b), (4, .bool false), (12, .int .i64 n), (13, .int .i64 i)], [], 0⟩
theorem q_SameData_step {R : Type} (a b : List Int) (n i : Int) (K : Kont R) : execK t5 63 0 (ntAt t5.P 63) noCall 0 none (bodyAt t5.P 63 0) (q_SameData a b n i) (kRes 0 (keep 63 0) K) =
    (bif decide (i < n) then (bif decide (0 ≤ i) && decide (i < a.length) && true then (bif decide (0 ≤ i) && decide (i < b.length) && true then (bif a.getD i.toNat 0 != b.getD i.toNat 0 then K .ret (q_SameData a b n i) else K .normal (q_SameData a b n (M.w64 (i + 1)))) else none) else none) else K (.exit 0) (q_SameData a b n i)) := by kernel_rfl

def l_lSameData : Nat → St → Option (List (Bool × Ex × St))
  | 0, ⟨[(0, .vi .i32 a), (1, .vi .i32 b), (4, .bool false), (12, .int .i64 n), (13, .int .i64 0)], [], 0⟩ => some [(decide ((a.length : Int) = n) && decide ((b.length : Int) = n) && decide (n < 4611686018427387904) && M.eqL a b, .exit 0, q_SameData a b n n), (decide ((a.length : Int) = n) && decide ((b.length : Int) = n) && decide (n < 4611686018427387904), .ret, q_SameData a b n (badAt a.length fun i => a.getD i 0 == b.getD i 0 : Nat))]
  | _, _ => none
noncomputable def t6 : Cfg := t5.addLL 63 0 l_lSameData
theorem t6_ok : CfgOK t6 := addLL_ok t5_ok (by kernel_rfl) fun lo st alts ex st' h hp => by
  unfold l_lSameData at h
  split at h
  · simp only [Option.some.injEq] at h
    subst h
    rename_i a b n
    cases hL : (decide ((a.length : Int) = n) && decide ((b.length : Int) = n) && decide (n < 4611686018427387904)) with
    | false => rw [hL] at hp; cases hp
    | true =>
      rw [hL] at hp
      simp only [Bool.and_eq_true, decide_eq_true_eq] at hL
      obtain ⟨⟨rfl, hb⟩, hlt⟩ := hL
      have hb' : b.length = a.length := by omega
      refine loop_known (m := 0) (kp := keep 63 0) t5_ok noCall_ok ?_
      have main := all_rule (lo := 0) (kp := keep 63 0) (b := execK t5 63 0 (ntAt t5.P 63) noCall 0 none (bodyAt t5.P 63 0)) (K := fun ex st => some (ex, st)) a.length (fun i => a.getD i 0 == b.getD i 0) (fun i => q_SameData a b a.length i) 0 (fun i => (.ret, q_SameData a b a.length i)) (fun i => .inr rfl) (fun i hi hp K' => by
        rw [q_SameData_step, decide_eq_true (by omega : (i : Int) < a.length), decide_eq_true (by omega : (0 : Int) ≤ i), decide_eq_true (by omega : (i : Int) < b.length), Int.toNat_natCast, show (a.getD i 0 != b.getD i 0) = false by simpa using hp, w64_in (n := (i : Int) + 1) (by omega) (by omega)]
        rfl) (fun i hi hp K' => by
        rw [q_SameData_step, decide_eq_true (by omega : (i : Int) < a.length), decide_eq_true (by omega : (0 : Int) ≤ i), decide_eq_true (by omega : (i : Int) < b.length), Int.toNat_natCast, show (a.getD i 0 != b.getD i 0) = true by simpa using hp]
        rfl) (fun K' => by
        rw [q_SameData_step, decide_eq_false (by omega : ¬ (a.length : Int) < a.length)]
        rfl)
      rw [eqL_iff rfl hb'] at main
      cases he : M.eqL a b with
      | true =>
        rw [he] at hp
        cases hp
        exact main.1 he
      | false =>
        rw [he] at hp
        cases hp
        exact main.2 he
  · cases h

theorem e_SameData (a b : List Int) (hc : decide (a.length < 4294967296) = true) : Ev (callB t6 noCall 0 63 [.vi .i32 a, .vi .i32 b] [] 0) (.bool (M.eqL a b)) := by
  rw [show callB t6 noCall 0 63 [.vi .i32 a, .vi .i32 b] [] 0 = (bif (a.length : Int) != b.length then some (.bool false, [], 0) else bif decide ((a.length : Int) = a.length) && decide ((b.length : Int) = a.length) && decide ((a.length : Int) < 4611686018427387904) && M.eqL a b then some (.bool true, [], 0) else bif decide ((a.length : Int) = a.length) && decide ((b.length : Int) = a.length) && decide ((a.length : Int) < 4611686018427387904) then some (.bool false, [], 0) else none) by kernel_rfl]
  have hc := of_decide_eq_true hc
  by_cases h : a.length = b.length
  · rw [show ((a.length : Int) != b.length) = false by simp [h], decide_eq_true rfl, decide_eq_true (by omega), decide_eq_true (by omega)]
    cases M.eqL a b <;> exact ⟨_, [], 0, rfl, rfl, .refl _⟩
  · have he : M.eqL a b = false := decide_eq_false fun h' => h (by rw [h'])
    rw [show ((a.length : Int) != b.length) = true by simp; omega, he]
    exact ⟨_, [], 0, rfl, rfl, .refl _⟩
def m_SameData : List AV → Option (Bool × AV)
  | [a_, b_] => (asVi .i32 a_).bind fun a => (asVi .i32 b_).bind fun b => some (decide (a.length < 4294967296), .bool (M.eqL a b))
  | _ => none
noncomputable def t7 : Cfg := t6.add 63 m_SameData
theorem t7_ok : CfgOK t7 := add_ok t6_ok fun xs v h => by
  unfold m_SameData at h; split at h
  · obtain ⟨a, h_a, h⟩ := Option.bind_eq_some_iff.1 h
    obtain ⟨b, h_b, h⟩ := Option.bind_eq_some_iff.1 h
    simp only [Option.some.injEq, Prod.mk.injEq] at h; obtain ⟨h1, rfl⟩ := h
    exact Ev.pure t6_ok noCall_ok (e_SameData _ _ h1) (.cons (.leaf (asVi_le h_a)) (.cons (.leaf (asVi_le h_b)) (.refl _)))
  · cases h

def v_Valid (l : List Int) (n i : Int) : St := ⟨[(2, .bool false), (32, .vi .i32 l), (33, .int .i64 n), (34, .int .i64 i)], [], 0⟩
theorem v_Valid_step {R : Type} (l : List Int) (n i : Int) (K : Kont R) : execK t7 65 0 (ntAt t7.P 65) noCall 0 none (bodyAt t7.P 65 0) (v_Valid l n i) (kRes 0 (keep 65 0) K) =
    (bif decide (i < n) then (bif decide (0 ≤ i) && decide (i < l.length) && true then (bif !M.smp (l.getD i.toNat 0) then K .ret (v_Valid l n i) else K .normal (v_Valid l n (M.w64 (i + 1)))) else none) else K (.exit 0) (v_Valid l n i)) := by kernel_rfl

def l_lValid : Nat → St → Option (List (Bool × Ex × St))
  | 0, ⟨[(2, .bool false), (32, .vi .i32 l), (33, .int .i64 n), (34, .int .i64 0)], [], 0⟩ => some [(decide ((l.length : Int) = n) && decide (n < 4611686018427387904) && l.all M.smp, .exit 0, v_Valid l n n), (decide ((l.length : Int) = n) && decide (n < 4611686018427387904), .ret, v_Valid l n (badAt l.length fun i => M.smp (l.getD i 0) : Nat))]
  | _, _ => none
noncomputable def t8 : Cfg := t7.addLL 65 0 l_lValid
theorem t8_ok : CfgOK t8 := addLL_ok t7_ok (by kernel_rfl) fun lo st alts ex st' h hp => by
  unfold l_lValid at h
  split at h
  · simp only [Option.some.injEq] at h
    subst h
    rename_i l n
    cases hL : (decide ((l.length : Int) = n) && decide (n < 4611686018427387904)) with
    | false => rw [hL] at hp; cases hp
    | true =>
      rw [hL] at hp
      simp only [Bool.and_eq_true, decide_eq_true_eq] at hL
      obtain ⟨rfl, hlt⟩ := hL
      refine loop_known (m := 0) (kp := keep 65 0) t7_ok noCall_ok ?_
      have main := all_rule (lo := 0) (kp := keep 65 0) (b := execK t7 65 0 (ntAt t7.P 65) noCall 0 none (bodyAt t7.P 65 0)) (K := fun ex st => some (ex, st)) l.length (fun i => M.smp (l.getD i 0)) (fun i => v_Valid l l.length i) 0 (fun i => (.ret, v_Valid l l.length i)) (fun i => .inr rfl) (fun i hi hp K' => by
        rw [v_Valid_step, decide_eq_true (by omega : (i : Int) < l.length), decide_eq_true (by omega : (0 : Int) ≤ i), Int.toNat_natCast, hp, w64_in (n := (i : Int) + 1) (by omega) (by omega)]
        rfl) (fun i hi hp K' => by
        rw [v_Valid_step, decide_eq_true (by omega : (i : Int) < l.length), decide_eq_true (by omega : (0 : Int) ≤ i), Int.toNat_natCast, hp]
        rfl) (fun K' => by
        rw [v_Valid_step, decide_eq_false (by omega : ¬ (l.length : Int) < l.length)]
        rfl)
      rw [allN_getD] at main
      cases he : l.all M.smp with
      | true =>
        rw [he] at hp
        cases hp
        exact main.1 he
      | false =>
        rw [he] at hp
        cases hp
        exact main.2 he
  · cases h

theorem e_Valid (c : Int) (l : List Int) (hc : decide (l.length < 4294967296) = true) : Ev (callB t8 noCall 0 65 [.agg [.int .i64 c, .vi .i32 l]] [] 0) (.bool (M.valid c l)) := by
  rw [show callB t8 noCall 0 65 [.agg [.int .i64 c, .vi .i32 l]] [] 0 = (bif !decide (c < 1) then (bif !decide (c > 8) then (bif c != 0 && true then (bif !((l.length : Int).tmod c != 0) then (bif c != 0 && true then (bif decide (M.w64 ((l.length : Int).tdiv c) > 65536) then some (.bool false, [], 0) else bif decide ((l.length : Int) = l.length) && decide ((l.length : Int) < 4611686018427387904) && l.all M.smp then some (.bool true, [], 0) else bif decide ((l.length : Int) = l.length) && decide ((l.length : Int) < 4611686018427387904) then some (.bool false, [], 0) else none) else none) else some (.bool false, [], 0)) else none) else some (.bool false, [], 0)) else some (.bool false, [], 0)) by kernel_rfl]
  have hc := of_decide_eq_true hc
  unfold M.valid
  by_cases h1 : c < 1
  · rw [decide_eq_true h1]; exact ⟨_, [], 0, rfl, rfl, .refl _⟩
  · have hz : (c != 0) = true := by simp; omega
    rw [decide_eq_false h1, hz, decide_eq_true rfl, decide_eq_true (by omega : (l.length : Int) < 4611686018427387904)]
    cases decide (c > 8) <;> cases ((l.length : Int).tmod c != 0) <;> cases decide (M.w64 ((l.length : Int).tdiv c) > 65536) <;> cases l.all M.smp <;> exact ⟨_, [], 0, rfl, rfl, .refl _⟩
def m_Valid : List AV → Option (Bool × AV)
  | [.agg [.int .i64 c, l_]] => (asVi .i32 l_).bind fun l => some (decide (l.length < 4294967296), .bool (M.valid c l))
  | _ => none
noncomputable def t9 : Cfg := t8.add 65 m_Valid
theorem t9_ok : CfgOK t9 := add_ok t8_ok fun xs v h => by
  unfold m_Valid at h; split at h
  · obtain ⟨l, h_l, h⟩ := Option.bind_eq_some_iff.1 h
    simp only [Option.some.injEq, Prod.mk.injEq] at h; obtain ⟨h1, rfl⟩ := h
    exact Ev.pure t8_ok noCall_ok (e_Valid _ _ h1) (.cons (.agg (.cons (.refl _) (.cons (asVi_le h_l) (.refl _)))) (.refl _))
  · cases h

def v_rValid (l : List Int) (n i : Int) : St := ⟨[(2, .bool false), (32, .vi .i32 l), (33, .int .i64 n), (34, .int .i64 i)], [], 0⟩
theorem v_rValid_step {R : Type} (l : List Int) (n i : Int) (K : Kont R) : execK t9 68 0 (ntAt t9.P 68) noCall 0 none (bodyAt t9.P 68 0) (v_rValid l n i) (kRes 0 (keep 68 0) K) =
    (bif decide (i < n) then (bif decide (0 ≤ i) && decide (i < l.length) && true then (bif !M.smp (l.getD i.toNat 0) then K .ret (v_rValid l n i) else K .normal (v_rValid l n (M.w64 (i + 1)))) else none) else K (.exit 0) (v_rValid l n i)) := by kernel_rfl

def l_lrValid : Nat → St → Option (List (Bool × Ex × St))
  | 0, ⟨[(2, .bool false), (32, .vi .i32 l), (33, .int .i64 n), (34, .int .i64 0)], [], 0⟩ => some [(decide ((l.length : Int) = n) && decide (n < 4611686018427387904) && l.all M.smp, .exit 0, v_rValid l n n), (decide ((l.length : Int) = n) && decide (n < 4611686018427387904), .ret, v_rValid l n (badAt l.length fun i => M.smp (l.getD i 0) : Nat))]
  | _, _ => none
noncomputable def t10 : Cfg := t9.addLL 68 0 l_lrValid
theorem t10_ok : CfgOK t10 := addLL_ok t9_ok (by kernel_rfl) fun lo st alts ex st' h hp => by
  unfold l_lrValid at h
  split at h
  · simp only [Option.some.injEq] at h
    subst h
    rename_i l n
    cases hL : (decide ((l.length : Int) = n) && decide (n < 4611686018427387904)) with
    | false => rw [hL] at hp; cases hp
    | true =>
      rw [hL] at hp
      simp only [Bool.and_eq_true, decide_eq_true_eq] at hL
      obtain ⟨rfl, hlt⟩ := hL
      refine loop_known (m := 0) (kp := keep 68 0) t9_ok noCall_ok ?_
      have main := all_rule (lo := 0) (kp := keep 68 0) (b := execK t9 68 0 (ntAt t9.P 68) noCall 0 none (bodyAt t9.P 68 0)) (K := fun ex st => some (ex, st)) l.length (fun i => M.smp (l.getD i 0)) (fun i => v_rValid l l.length i) 0 (fun i => (.ret, v_rValid l l.length i)) (fun i => .inr rfl) (fun i hi hp K' => by
        rw [v_rValid_step, decide_eq_true (by omega : (i : Int) < l.length), decide_eq_true (by omega : (0 : Int) ≤ i), Int.toNat_natCast, hp, w64_in (n := (i : Int) + 1) (by omega) (by omega)]
        rfl) (fun i hi hp K' => by
        rw [v_rValid_step, decide_eq_true (by omega : (i : Int) < l.length), decide_eq_true (by omega : (0 : Int) ≤ i), Int.toNat_natCast, hp]
        rfl) (fun K' => by
        rw [v_rValid_step, decide_eq_false (by omega : ¬ (l.length : Int) < l.length)]
        rfl)
      rw [allN_getD] at main
      cases he : l.all M.smp with
      | true =>
        rw [he] at hp
        cases hp
        exact main.1 he
      | false =>
        rw [he] at hp
        cases hp
        exact main.2 he
  · cases h

theorem e_rValid (c : Int) (l : List Int) (hc : decide (l.length < 4294967296) = true) : Ev (callB t10 noCall 0 68 [.agg [.int .i64 c, .vi .i32 l]] [] 0) (.bool (M.valid c l)) := by
  rw [show callB t10 noCall 0 68 [.agg [.int .i64 c, .vi .i32 l]] [] 0 = (bif !decide (c < 1) then (bif !decide (c > 8) then (bif c != 0 && true then (bif !((l.length : Int).tmod c != 0) then (bif c != 0 && true then (bif decide (M.w64 ((l.length : Int).tdiv c) > 65536) then some (.bool false, [], 0) else bif decide ((l.length : Int) = l.length) && decide ((l.length : Int) < 4611686018427387904) && l.all M.smp then some (.bool true, [], 0) else bif decide ((l.length : Int) = l.length) && decide ((l.length : Int) < 4611686018427387904) then some (.bool false, [], 0) else none) else none) else some (.bool false, [], 0)) else none) else some (.bool false, [], 0)) else some (.bool false, [], 0)) by kernel_rfl]
  have hc := of_decide_eq_true hc
  unfold M.valid
  by_cases h1 : c < 1
  · rw [decide_eq_true h1]; exact ⟨_, [], 0, rfl, rfl, .refl _⟩
  · have hz : (c != 0) = true := by simp; omega
    rw [decide_eq_false h1, hz, decide_eq_true rfl, decide_eq_true (by omega : (l.length : Int) < 4611686018427387904)]
    cases decide (c > 8) <;> cases ((l.length : Int).tmod c != 0) <;> cases decide (M.w64 ((l.length : Int).tdiv c) > 65536) <;> cases l.all M.smp <;> exact ⟨_, [], 0, rfl, rfl, .refl _⟩
def m_rValid : List AV → Option (Bool × AV)
  | [.agg [.int .i64 c, l_]] => (asVi .i32 l_).bind fun l => some (decide (l.length < 4294967296), .bool (M.valid c l))
  | _ => none
noncomputable def t11 : Cfg := t10.add 68 m_rValid
theorem t11_ok : CfgOK t11 := add_ok t10_ok fun xs v h => by
  unfold m_rValid at h; split at h
  · obtain ⟨l, h_l, h⟩ := Option.bind_eq_some_iff.1 h
    simp only [Option.some.injEq, Prod.mk.injEq] at h; obtain ⟨h1, rfl⟩ := h
    exact Ev.pure t10_ok noCall_ok (e_rValid _ _ h1) (.cons (.agg (.cons (.refl _) (.cons (asVi_le h_l) (.refl _)))) (.refl _))
  · cases h

def m_Frames : List AV → Option (Bool × AV)
  | [.agg [.int .i64 c, l_]] => (asVi .i32 l_).bind fun l => some (decide (l.length < 4294967296), .int .i64 (M.frames c l))
  | _ => none
noncomputable def t12 : Cfg := t11

theorem t12_ok : CfgOK t12 := t11_ok

def m_rFrames : List AV → Option (Bool × AV)
  | [.agg [.int .i64 c, l_]] => (asVi .i32 l_).bind fun l => some (decide (l.length < 4294967296), .int .i64 (M.frames c l))
  | _ => none
noncomputable def t13 : Cfg := t12

theorem t13_ok : CfgOK t13 := t12_ok

def m_Silence : List AV → Option (Bool × AV)
  | [.int .i64 c, .int .i64 n] => some (true, .tuple [.agg [.int .i64 (M.silC c n), .vi .i32 (M.silD c n)], .int .i64 (M.silE c n)])
  | _ => none
noncomputable def t14 : Cfg := t13

theorem t14_ok : CfgOK t14 := t13_ok

def m_rSilence : List AV → Option (Bool × AV)
  | [.int .i64 c, .int .i64 n] => some (true, .tuple [.agg [.int .i64 (M.silC c n), .vi .i32 (M.silD c n)], .int .i64 (M.silE c n)])
  | _ => none
noncomputable def t15 : Cfg := t14

theorem t15_ok : CfgOK t15 := t14_ok

def m_Same : List AV → Option (Bool × AV)
  | [.agg [.int .i64 c, a_], .agg [.int .i64 d, b_]] => (asVi .i32 a_).bind fun a => (asVi .i32 b_).bind fun b => some (decide (a.length < 4294967296), .bool (c == d && M.eqL a b))
  | _ => none
noncomputable def t16 : Cfg := t15

theorem t16_ok : CfgOK t16 := t15_ok

/-- from here on the size of the reference is known as one number -/
noncomputable def t17 : Cfg := t16.addX 41 fun _ => none
theorem t17_ok : CfgOK t17 := addX_ok t16_ok fun _ _ _ h => by cases h

theorem e_rSizeE (k : Int) : Ev (callB t17 noCall 0 41 [.int .i64 k] [] 0) (.int .i64 (M.fsz k)) := by
  rw [show callB t17 noCall 0 41 [.int .i64 k] [] 0 = (bif k == 1 then some (AV.int .i64 1, [], 0) else bif k == 2 then some (AV.int .i64 2, [], 0) else bif k == 3 then some (AV.int .i64 2, [], 0) else bif k == 4 then some (AV.int .i64 3, [], 0) else bif k == 5 then some (AV.int .i64 3, [], 0) else bif k == 6 then some (AV.int .i64 4, [], 0) else bif k == 7 then some (AV.int .i64 4, [], 0) else some (AV.int .i64 0, [], 0)) by kernel_rfl]
  rcases kinds k with rfl | rfl | rfl | rfl | rfl | rfl | rfl | ⟨h1, h2, h3, h4, h5, h6, h7⟩
  · exact ⟨_, [], 0, rfl, rfl, .refl _⟩
  · exact ⟨_, [], 0, rfl, rfl, .refl _⟩
  · exact ⟨_, [], 0, rfl, rfl, .refl _⟩
  · exact ⟨_, [], 0, rfl, rfl, .refl _⟩
  · exact ⟨_, [], 0, rfl, rfl, .refl _⟩
  · exact ⟨_, [], 0, rfl, rfl, .refl _⟩
  · exact ⟨_, [], 0, rfl, rfl, .refl _⟩
  · have : M.fsz k = 0 := by unfold M.fsz; simp only [h1, h2, h3, h4, h5, h6, h7, cond_false]
    rw [this]
    simp only [h1, h2, h3, h4, h5, h6, h7, cond_false]
    exact ⟨_, [], 0, rfl, rfl, .refl _⟩
def m_rSizeE : List AV → Option (Bool × AV)
  | [.int .i64 k] => some (true, .int .i64 (M.fsz k))
  | _ => none
noncomputable def t18 : Cfg := t17.add 41 m_rSizeE
theorem t18_ok : CfgOK t18 := add_ok t17_ok fun xs v h => by
  unfold m_rSizeE at h; split at h
  · simp only [Option.some.injEq, Prod.mk.injEq, true_and] at h; subst h
    exact Ev.pure t17_ok noCall_ok (e_rSizeE _) (.refl _)
  · cases h

end Go.Proofs.Ytooiechjanmdjaa
