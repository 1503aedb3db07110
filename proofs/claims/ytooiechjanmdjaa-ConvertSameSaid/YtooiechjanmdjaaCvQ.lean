/- The models of conversions: bytes that are made; silence in bytes. -/
import Derived.Test.YtooiechjanmdjaaCvO
namespace Go.Proofs.Ytooiechjanmdjaa
open Am
set_option maxRecDepth 100000
set_option linter.unusedVariables false
set_option linter.unusedSimpArgs false
set_option maxHeartbeats 4000000

namespace M
def bytD : Nat → List Int → List Int
  | 0, _ => []
  | n + 1, s => w8 (nextV 256 s) :: bytD n (nextL 256 s)
def bytL : Nat → List Int → List Int
  | 0, s => s
  | n + 1, s => bytL n (nextL 256 s)
def zerD (k : Int) (n : Nat) : List Int := List.replicate n (bif k == 1 then 128 else 0)
def byN (k r : Int) (l : List Int) (n : Int) : Nat := (n * frsz k r l).toNat
def okBy (k r : Int) (l : List Int) (n : Int) : Bool := fits k r l && decide (0 ≤ n) && decide (n ≤ 4096) && decide (l.length < 4294967296)
end M
theorem bytD_snoc : ∀ (i : Nat) (l : List Int), M.bytD (i + 1) l = M.bytD i l ++ [M.w8 (M.nextV 256 (M.bytL i l))]
  | 0, l => rfl
  | i + 1, l => by
    have := bytD_snoc i (M.nextL 256 l)
    simp only [M.bytD, M.bytL, List.cons_append] at this ⊢
    rw [this]
theorem bytL_snoc : ∀ (i : Nat) (l : List Int), M.bytL (i + 1) l = M.nextL 256 (M.bytL i l)
  | 0, l => rfl
  | i + 1, l => by
    have := bytL_snoc i (M.nextL 256 l)
    simp only [M.bytL] at this ⊢
    rw [this]
theorem bytD_length : ∀ (i : Nat) (l : List Int), (M.bytD i l).length = i
  | 0, l => rfl
  | i + 1, l => by simp [M.bytD, bytD_length i]
theorem bytD_byt : ∀ (i : Nat) (l : List Int), M.byt (M.bytD i l) = true
  | 0, l => rfl
  | i + 1, l => by
    have := bytD_byt i (M.nextL 256 l)
    unfold M.byt at this ⊢
    rw [M.bytD, List.all_cons, this, Sp.w8_mod, decide_eq_true (Int.emod_nonneg _ (by omega)), decide_eq_true (by have := Int.emod_lt_of_pos (M.nextV 256 l) (show (0 : Int) < 256 by omega); omega)]
    rfl
theorem bytL_byt : ∀ (i : Nat) {l : List Int}, M.byt l = true → M.byt (M.bytL i l) = true
  | 0, l, h => h
  | i + 1, l, h => bytL_byt i (byt_next h)
theorem byN_eq {k r : Int} {l : List Int} {n : Int} (h : M.okBy k r l n = true) : M.w64 (n * M.frsz k r l) = (M.byN k r l n : Int) ∧ M.byN k r l n = n.toNat * ((M.fsz k).toNat * l.length) ∧ M.byN k r l n ≤ 131072 := by
  unfold M.okBy at h
  simp only [Bool.and_eq_true, decide_eq_true_eq] at h
  obtain ⟨⟨⟨hf, h0⟩, h1⟩, _⟩ := h
  obtain ⟨z1, z2, z3, z4, z5, z6, z7, z8, z9, z10⟩ := frsz_eq hf
  obtain ⟨n, rfl⟩ := Int.eq_ofNat_of_zero_le h0
  have e : (n : Int) * M.frsz k r l = ((n * ((M.fsz k).toNat * l.length) : Nat) : Int) := by rw [z1, Int.natCast_mul, Int.natCast_mul, z2]
  have hle : n * ((M.fsz k).toNat * l.length) ≤ 4096 * 32 := Nat.mul_le_mul (by omega) z10
  unfold M.byN
  rw [e, Int.toNat_natCast, Int.toNat_natCast]
  exact ⟨w64_in (by omega) (by omega), rfl, by omega⟩
theorem set_next {P : List Int} {m i : Nat} {x : Int} (hp : P.length = i) (hi : i < m) (z : Int) : (P ++ List.replicate (m - i) z).set i x = P ++ [x] ++ List.replicate (m - (i + 1)) z := by
  rw [List.set_append_right _ _ (by omega), hp, Nat.sub_self]
  obtain ⟨q, hq⟩ : ∃ q, m - i = q + 1 := ⟨m - i - 1, by omega⟩
  rw [hq, List.replicate_succ, List.set_cons_zero, show m - (i + 1) = q by omega, List.append_assoc]
  rfl
noncomputable def y19 : Cfg := (y18.keepTo 20 0 [0, 7, 15, 16]).keepTo 24 0 [2, 5, 13, 14]
theorem y19_ok : CfgOK y19 := keepTo_ok (keepTo_ok y18_ok _ _ _) _ _ _
def btS (m : Nat) (s : List Int) (i : Int) (o : List Int) : St := ⟨[(0, .ptr 0 0 1), (7, .sl 2 1 0 m), (15, .int .i64 m), (16, .int .i64 i)], [(2, .fix (.ints .u8 o)), (0, .fix (.cells [.vi .u8 s]))], 3⟩
def zeS (k r : Int) (l : List Int) (m : Nat) (i : Int) (o : List Int) : St := ⟨[(2, .ptr 0 0 3), (5, .sl 1 1 0 m), (13, .int .i64 m), (14, .int .i64 i)], [(1, .fix (.ints .u8 o)), (0, .fix (.cells [.int .i64 k, .int .i64 r, .vi .i64 l]))], 2⟩
theorem bt_step {R : Type} (m : Nat) (s : List Int) (i : Int) (o : List Int) (K : Kont R) : execK y19 20 1 (ntAt y19.P 20) noCall 0 none (bodyAt y19.P 20 0) (btS m s i o) (kRes 1 (some [0, 7, 15, 16]) K) =
    (bif decide (i < (m : Int)) then (bif decide (0 ≤ i) && decide (i < (m : Int)) && true then K .normal (btS m (M.nextL 256 s) (M.w64 (i + 1)) (o.set (0 + i.toNat * 1) (M.w8 (M.nextV 256 s)))) else none) else K (.exit 0) (btS m s i o)) := by kernel_rfl
theorem ze_step {R : Type} (k r : Int) (l : List Int) (m : Nat) (i : Int) (o : List Int) (K : Kont R) : execK y19 24 0 (ntAt y19.P 24) noCall 0 none (bodyAt y19.P 24 0) (zeS k r l m i o) (kRes 0 (some [2, 5, 13, 14]) K) =
    (bif decide (i < (m : Int)) then (bif k == 1 then (bif decide (0 ≤ i) && decide (i < (m : Int)) && true then K .normal (zeS k r l m (M.w64 (i + 1)) (o.set (0 + i.toNat * 1) 128)) else none) else K .normal (zeS k r l m (M.w64 (i + 1)) o)) else K (.exit 0) (zeS k r l m i o)) := by kernel_rfl

def l_bytes : Nat → St → Option (Bool × Ex × St)
  | 1, ⟨[(0, .ptr 0 0 1), (7, .sl 2 1 0 m), (15, .int .i64 m_), (16, .int .i64 0)], [(2, .fix (.ints .u8 o)), (0, .fix (.cells [.vi .u8 s]))], 3⟩ => some (decide (m_ = (m : Int)) && decide (o = List.replicate m 0) && decide (m ≤ 1000000), .exit 0, btS m (M.bytL m s) m (M.bytD m s))
  | _, _ => none
noncomputable def y20 : Cfg := y19.addL 20 0 l_bytes
theorem y20_ok : CfgOK y20 := addL_ok y19_ok (by kernel_rfl) fun lo st ex st' h => by
  unfold l_bytes at h
  split at h
  · simp only [Option.some.injEq, Prod.mk.injEq] at h
    obtain ⟨hc, rfl, rfl⟩ := h
    rename_i m m_ o s
    simp only [Bool.and_eq_true, decide_eq_true_eq] at hc
    obtain ⟨⟨rfl, rfl⟩, hm⟩ := hc
    refine loop_known (m := 0) (kp := (some [0, 7, 15, 16])) y19_ok noCall_ok ?_
    have e0 : List.replicate m (0 : Int) = M.bytD 0 s ++ List.replicate (m - 0) 0 := by simp [M.bytD]
    have e1 : M.bytD m s = M.bytD m s ++ List.replicate (m - m) 0 := by simp
    rw [e0, e1]
    refine loop_rule (fun i : Nat => btS m (M.bytL i s) i (M.bytD i s ++ List.replicate (m - i) 0)) (fun i => i ≤ m) (fun i => m - i) (fun _ => (.exit 0, btS m (M.bytL m s) m (M.bytD m s ++ List.replicate (m - m) 0))) (fun i hi => ?_) 0 (Nat.zero_le _)
    by_cases hlt : i < m
    · refine .inl ⟨i + 1, hlt, by omega, rfl, fun K' => ?_⟩
      rw [bt_step, decide_eq_true (by omega), decide_eq_true (by omega), w64_in (n := (i : Int) + 1) (by omega) (by omega), Int.toNat_natCast, Nat.mul_one, Nat.zero_add, set_next (bytD_length i s) hlt, ← bytD_snoc, ← bytL_snoc]
      rfl
    · have : i = m := by omega
      subst this
      refine .inr ⟨⟨0, .inl rfl⟩, fun K' => ?_⟩
      rw [bt_step, decide_eq_false (by omega)]
      rfl
  · cases h

def l_zero : Nat → St → Option (Bool × Ex × St)
  | 0, ⟨[(2, .ptr 0 0 3), (5, .sl 1 1 0 m), (13, .int .i64 m_), (14, .int .i64 0)], [(1, .fix (.ints .u8 o)), (0, .fix (.cells [.int .i64 k, .int .i64 r, .vi .i64 l]))], 2⟩ => some (decide (m_ = (m : Int)) && decide (o = List.replicate m 0) && decide (m ≤ 1000000), .exit 0, zeS k r l m m (M.zerD k m))
  | _, _ => none
noncomputable def y21 : Cfg := y20.addL 24 0 l_zero
theorem y21_ok : CfgOK y21 := addL_ok y20_ok (by kernel_rfl) fun lo st ex st' h => by
  unfold l_zero at h
  split at h
  · simp only [Option.some.injEq, Prod.mk.injEq] at h
    obtain ⟨hc, rfl, rfl⟩ := h
    rename_i m m_ o k r l
    simp only [Bool.and_eq_true, decide_eq_true_eq] at hc
    obtain ⟨⟨rfl, rfl⟩, hm⟩ := hc
    refine loop_known (m := 0) (kp := (some [2, 5, 13, 14])) y20_ok noCall_ok ?_
    have e0 : List.replicate m (0 : Int) = M.zerD k 0 ++ List.replicate (m - 0) 0 := by simp [M.zerD]
    have e1 : M.zerD k m = M.zerD k m ++ List.replicate (m - m) 0 := by simp
    rw [e0, e1]
    refine loop_rule (fun i : Nat => zeS k r l m i (M.zerD k i ++ List.replicate (m - i) 0)) (fun i => i ≤ m) (fun i => m - i) (fun _ => (.exit 0, zeS k r l m m (M.zerD k m ++ List.replicate (m - m) 0))) (fun i hi => ?_) 0 (Nat.zero_le _)
    have st := fun (R : Type) (K : Kont R) => (ze_step k r l m i (M.zerD k i ++ List.replicate (m - i) 0) K)
    by_cases hlt : i < m
    · refine .inl ⟨i + 1, hlt, by omega, rfl, fun K' => ?_⟩
      have hs : ∀ x : Int, M.zerD k i ++ [x] ++ List.replicate (m - (i + 1)) 0 = (M.zerD k i ++ List.replicate (m - i) 0).set i x := fun x => (set_next (by simp [M.zerD]) hlt 0).symm
      have hz : M.zerD k (i + 1) = M.zerD k i ++ [bif k == 1 then 128 else 0] := by unfold M.zerD; exact List.replicate_succ'
      refine (st _ K').trans ?_
      rw [decide_eq_true (by omega), decide_eq_true (by omega), w64_in (n := (i : Int) + 1) (by omega) (by omega), Int.toNat_natCast, Nat.mul_one, Nat.zero_add, hz, hs]
      cases hk : k == 1
      · obtain ⟨q, hq⟩ : ∃ q, m - i = q + 1 := ⟨m - i - 1, by omega⟩
        have hz0 : (M.zerD k i ++ List.replicate (m - i) 0).set i 0 = M.zerD k i ++ List.replicate (m - i) 0 := by
          refine (hs 0).symm.trans ?_
          rw [hq, List.replicate_succ, show m - (i + 1) = q by omega, List.append_assoc]; rfl
        rw [cond_false, cond_false, hz0]
        rfl
      · rfl
    · have : i = m := by omega
      subst this
      refine .inr ⟨⟨0, .inl rfl⟩, fun K' => ?_⟩
      refine (st _ K').trans ?_
      rw [decide_eq_false (by omega)]
      rfl
  · cases h

theorem e_bytes (k r : Int) (l s : List Int) (n : Int) (hc : M.okBy k r l n = true) : callB y21 noCall 0 20 [.ptr 0 0 1, .agg [.int .i64 k, .int .i64 r, .vi .i64 l], .int .i64 n] [(0, .fix (.cells [.vi .u8 s]))] 1 = some (.vi .u8 (M.bytD (M.byN k r l n) s), [(0, .fix (.cells [.vi .u8 (M.bytL (M.byN k r l n) s)]))], 1) := by
  refine (show callB y21 noCall 0 20 [.ptr 0 0 1, .agg [.int .i64 k, .int .i64 r, .vi .i64 l], .int .i64 n] [(0, .fix (.cells [.vi .u8 s]))] 1 = (bif decide (l.length < 4294967296) && true then (bif decide (0 ≤ (M.w64 (n * M.frsz k r l))) && decide ((M.w64 (n * M.frsz k r l)) ≤ (M.w64 (n * M.frsz k r l))) && decide ((M.w64 (n * M.frsz k r l)) ≤ 4294967296) && true then (bif decide ((((M.w64 (n * M.frsz k r l))).toNat : Int) = (((M.w64 (n * M.frsz k r l))).toNat : Int)) && decide (List.replicate ((M.w64 (n * M.frsz k r l))).toNat (0 : Int) = List.replicate ((M.w64 (n * M.frsz k r l))).toNat 0) && decide (((M.w64 (n * M.frsz k r l))).toNat ≤ 1000000) then some (.vi .u8 (((M.bytD ((M.w64 (n * M.frsz k r l))).toNat s).drop 0).take ((M.w64 (n * M.frsz k r l))).toNat), [(0, .fix (.cells [.vi .u8 (M.bytL ((M.w64 (n * M.frsz k r l))).toNat s)]))], 1) else none) else none) else none) by kernel_rfl).trans ?_
  have hN := byN_eq (by simpa using hc)
  obtain ⟨n1, n2, n3⟩ := hN
  unfold M.okBy at hc
  simp only [Bool.and_eq_true, decide_eq_true_eq] at hc
  obtain ⟨⟨⟨hf, h0⟩, h1⟩, hl⟩ := hc
  rw [n1, decide_eq_true hl, decide_eq_true (by omega : (0 : Int) ≤ (M.byN k r l n : Int)), decide_eq_true (Int.le_refl _), decide_eq_true (by omega : (M.byN k r l n : Int) ≤ 4294967296), decide_eq_true rfl, decide_eq_true rfl, Int.toNat_natCast, decide_eq_true (by omega : M.byN k r l n ≤ 1000000), List.drop_zero, List.take_of_length_le (by rw [bytD_length]; exact Nat.le_refl _)]
  rfl
def m_bytes : List AV → Sto → Option (Bool × AV × Upd × Nat)
  | [.ptr 0 0 1, .agg [.int .i64 k, .int .i64 r, .vi .i64 l], .int .i64 n], [(0, .fix (.cells [.vi .u8 s]))] => some (M.okBy k r l n, .vi .u8 (M.bytD (M.byN k r l n) s), [(0, .fix (.cells [.vi .u8 (M.bytL (M.byN k r l n) s)]))], 1)
  | _, _ => none
noncomputable def y22 : Cfg := y21.addR 20 m_bytes
theorem y22_ok : CfgOK y22 := addR_ok y21_ok fun xs s v u nx h => by
  unfold m_bytes at h; split at h
  · simp only [Option.some.injEq, Prod.mk.injEq] at h; obtain ⟨h1, rfl, rfl, rfl⟩ := h; exact callB_ok y21_ok noCall_ok 0 _ _ _ _ _ _ _ (e_bytes _ _ _ _ _ h1)
  · cases h

theorem e_zero (k r : Int) (l : List Int) (n : Int) (hc : M.okBy k r l n = true) : Ev (callB y22 noCall 10 24 [.agg [.int .i64 k, .int .i64 r, .vi .i64 l], .int .i64 n] [] 0) (.vi .u8 (M.zerD k (M.byN k r l n))) := by
  rw [show callB y22 noCall 10 24 [.agg [.int .i64 k, .int .i64 r, .vi .i64 l], .int .i64 n] [] 0 = (bif decide (l.length < 4294967296) && true then (bif decide (0 ≤ (M.w64 (n * M.frsz k r l))) && decide ((M.w64 (n * M.frsz k r l)) ≤ (M.w64 (n * M.frsz k r l))) && decide ((M.w64 (n * M.frsz k r l)) ≤ 4294967296) && true then (bif decide ((((M.w64 (n * M.frsz k r l))).toNat : Int) = (((M.w64 (n * M.frsz k r l))).toNat : Int)) && decide (List.replicate ((M.w64 (n * M.frsz k r l))).toNat (0 : Int) = List.replicate ((M.w64 (n * M.frsz k r l))).toNat 0) && decide (((M.w64 (n * M.frsz k r l))).toNat ≤ 1000000) then some (.vi .u8 (((M.zerD k ((M.w64 (n * M.frsz k r l))).toNat).drop 0).take ((M.w64 (n * M.frsz k r l))).toNat), [], 0) else none) else none) else none) by kernel_rfl]
  have hN := byN_eq (by simpa using hc)
  obtain ⟨n1, n2, n3⟩ := hN
  unfold M.okBy at hc
  simp only [Bool.and_eq_true, decide_eq_true_eq] at hc
  obtain ⟨⟨⟨hf, h0⟩, h1⟩, hl⟩ := hc
  rw [n1, decide_eq_true hl, decide_eq_true (by omega : (0 : Int) ≤ (M.byN k r l n : Int)), decide_eq_true (Int.le_refl _), decide_eq_true (by omega : (M.byN k r l n : Int) ≤ 4294967296), decide_eq_true rfl, decide_eq_true rfl, Int.toNat_natCast, decide_eq_true (by omega : M.byN k r l n ≤ 1000000), List.drop_zero, List.take_of_length_le (by unfold M.zerD; rw [List.length_replicate]; exact Nat.le_refl _)]
  exact ⟨_, [], 0, rfl, rfl, .refl _⟩
def m_zero : List AV → Option (Bool × AV)
  | [.agg [.int .i64 k, .int .i64 r, l_], .int .i64 n] => (asVi .i64 l_).bind fun l => some (M.okBy k r l n, .vi .u8 (M.zerD k (M.byN k r l n)))
  | _ => none
noncomputable def y23 : Cfg := y22.add 24 m_zero
theorem y23_ok : CfgOK y23 := add_ok y22_ok fun xs v h => by
  unfold m_zero at h; split at h
  · obtain ⟨l, h_l, h⟩ := Option.bind_eq_some_iff.1 h
    simp only [Option.some.injEq, Prod.mk.injEq] at h; obtain ⟨h1, rfl⟩ := h
    exact Ev.pure y22_ok noCall_ok (e_zero _ _ _ _ h1) (.cons (.agg (.cons (.refl _) (.cons (.refl _) (.cons (asVi_le h_l) (.refl _))))) (.cons (.leaf (.refl _)) (.refl _)))
  · cases h

end Go.Proofs.Ytooiechjanmdjaa
