/- The models of samples: encoding. -/
import Derived.Test.YtooiechjanmdjaaSmA
namespace Go.Proofs.Ytooiechjanmdjaa
open Am
set_option maxRecDepth 100000
set_option linter.unusedVariables false
set_option linter.unusedSimpArgs false

namespace M
def okRI (bg : Bool) (l : List Int) : Bool := okF l.length bg && byt l
end M

def m_integer : List AV → Option (Bool × AV)
  | [l_, .bool bg] => (asVi .u8 l_).bind fun l => some (M.okRI bg l, .int .i64 (M.rint bg l))
  | _ => none
noncomputable def s9 : Cfg := s8

theorem s9_ok : CfgOK s9 := s8_ok

namespace M
def encS (sz : Int) (bg : Bool) (s : Int) : List Int := wr sz bg (num sz s)
def okL (l : List Int) (n : Int) : Bool := decide ((l.length : Int) = n) && decide (l.length ≤ 524288)
def okK (k sz : Int) : Bool := decide (fsz k = sz) && decide (1 ≤ sz)
def encE (k : Int) (l : List Int) : Int := bif fsz k == 0 then 1 else bif decide ((l.length : Int) > 524288) then 3 else bif l.all smp then 0 else 2
def encL (k : Int) (l : List Int) : List Int := bif encE k l == 0 then l.flatMap (encS (fsz k) (fbg k)) else []
end M
theorem wr_len (sz : Int) (bg : Bool) (n : Int) : (M.wr sz bg n).length = sz.toNat := by simp [M.wr]
theorem enc_len (sz : Int) (bg : Bool) : ∀ (l : List Int), (l.flatMap (M.encS sz bg)).length = l.length * sz.toNat
  | [] => by simp
  | x :: l => by
    rw [List.flatMap_cons, List.length_append, enc_len sz bg l, List.length_cons, Nat.succ_mul]
    unfold M.encS
    rw [wr_len]; omega
theorem take_snoc {l : List Int} {i : Nat} (h : i < l.length) : l.take (i + 1) = l.take i ++ [l.getD i 0] := by
  rw [List.take_add_one, List.getElem?_eq_getElem h, List.getD_eq_getElem?_getD, List.getElem?_eq_getElem h]; rfl
theorem enc_snoc (sz : Int) (bg : Bool) {l : List Int} {i : Nat} (h : i < l.length) : (l.take (i + 1)).flatMap (M.encS sz bg) = (l.take i).flatMap (M.encS sz bg) ++ M.wr sz bg (M.num sz (l.getD i 0)) := by
  rw [take_snoc h, List.flatMap_append]; simp [M.encS]
theorem enc_okW {sz : Int} {bg : Bool} (hf : M.okF sz bg = true) {l : List Int} (hl : l.length ≤ 524288) (i : Nat) : M.okW ((l.take i).flatMap (M.encS sz bg)) = true := by
  unfold M.okW
  refine Nat.ble_eq_true_of_le ?_
  rw [enc_len]
  have h1 : (l.take i).length ≤ 524288 := by rw [List.length_take]; omega
  have h2 : sz.toNat ≤ 4 := by rcases okF_cases hf with ⟨rfl, _⟩ | ⟨rfl, _⟩ | ⟨rfl, _⟩ | ⟨rfl, _⟩ | ⟨rfl, _⟩ | ⟨rfl, _⟩ | ⟨rfl, _⟩ <;> decide
  have := Nat.mul_le_mul h1 h2
  omega
def eS (e : Int) (sz : Int) (bg : Bool) (l : List Int) (n i : Int) (a : List Int) : St := ⟨[(4, .nilsl), (5, .int .i64 e), (6, .ptr 0 0 2), (7, .gsl 1 0), (27, .vi .i32 l), (28, .int .i64 n), (29, .int .i64 i)], [(1, .grow 1 0 (.ints .u8 a)), (0, .fix (.cells [.int .i64 sz, .bool bg]))], 2⟩
theorem e_step {R : Type} (sz : Int) (bg : Bool) (hf : M.okF sz bg = true) (l : List Int) (n i : Int) (a : List Int) (K : Kont R) : execK s9 49 0 (ntAt s9.P 49) noCall 0 none (bodyAt s9.P 49 1) (eS 0 sz bg l n i a) (kRes 0 (keep 49 1) K) =
    (bif decide (i < n) then (bif decide (0 ≤ i) && decide (i < l.length) && true then (bif !M.smp (l.getD i.toNat 0) then K .ret (eS 2 sz bg l n i a)
      else (bif (M.okF sz bg && M.okW a) && true then K .normal (eS 0 sz bg l n (M.w64 (i + 1)) (a ++ M.wr sz bg (M.num sz (l.getD i.toNat 0)))) else none)) else none) else K (.exit 1) (eS 0 sz bg l n i a)) := by
  rcases okF_cases hf with ⟨rfl, rfl⟩ | ⟨rfl, rfl⟩ | ⟨rfl, rfl⟩ | ⟨rfl, rfl⟩ | ⟨rfl, rfl⟩ | ⟨rfl, rfl⟩ | ⟨rfl, rfl⟩
  · kernel_rfl
  · kernel_rfl
  · kernel_rfl
  · kernel_rfl
  · kernel_rfl
  · kernel_rfl
  · kernel_rfl
def eHead (e : Int) (sz : Int) (bg : Bool) (l : List Int) (i : Nat) : St := eS e sz bg l l.length i ((l.take i).flatMap (M.encS sz bg))
theorem e_loop (sz : Int) (bg : Bool) (hf : M.okF sz bg = true) (l : List Int) (hl : l.length ≤ 524288) (K : Kont (Ex × St)) :
    (allN l.length (fun i => M.smp (l.getD i 0)) = true → ∃ m, loopK 0 (keep 49 1) (execK s9 49 0 (ntAt s9.P 49) noCall 0 none (bodyAt s9.P 49 1)) m (eHead 0 sz bg l 0) K = K (.exit 1) (eHead 0 sz bg l l.length)) ∧
    (allN l.length (fun i => M.smp (l.getD i 0)) = false → ∃ m, loopK 0 (keep 49 1) (execK s9 49 0 (ntAt s9.P 49) noCall 0 none (bodyAt s9.P 49 1)) m (eHead 0 sz bg l 0) K = K .ret (eHead 2 sz bg l (badAt l.length fun i => M.smp (l.getD i 0)))) := by
  refine all_rule l.length (fun i => M.smp (l.getD i 0)) (eHead 0 sz bg l) 1 (fun i => (.ret, eHead 2 sz bg l i)) (fun i => .inr rfl) (fun i hi hp K' => ?_) (fun i hi hp K' => ?_) (fun K' => ?_)
  · unfold eHead
    rw [e_step sz bg hf, decide_eq_true (by omega : (i : Int) < l.length), decide_eq_true (by omega : (0 : Int) ≤ i), Int.toNat_natCast, hp, hf, enc_okW hf hl i, w64_in (n := (i : Int) + 1) (by omega) (by omega), ← enc_snoc sz bg hi]
    rfl
  · unfold eHead
    rw [e_step sz bg hf, decide_eq_true (by omega : (i : Int) < l.length), decide_eq_true (by omega : (0 : Int) ≤ i), Int.toNat_natCast, hp]
    rfl
  · unfold eHead
    rw [e_step sz bg hf, decide_eq_false (by omega : ¬ (l.length : Int) < l.length)]
    rfl

def l_Enc : Nat → St → Option (List (Bool × Ex × St))
  | 0, ⟨[(4, .nilsl), (5, .int .i64 0), (6, .ptr 0 0 2), (7, .gsl 1 0), (27, .vi .i32 l), (28, .int .i64 n), (29, .int .i64 0)], [(1, .grow 1 0 (.ints .u8 [])), (0, .fix (.cells [.int .i64 sz, .bool bg]))], 2⟩ => some [(M.okF sz bg && M.okL l n && l.all M.smp, .exit 1, eHead 0 sz bg l l.length), (M.okF sz bg && M.okL l n, .ret, eHead 2 sz bg l (badAt l.length fun i => M.smp (l.getD i 0)))]
  | _, _ => none
noncomputable def s10 : Cfg := s9.addLL 49 1 l_Enc
theorem s10_ok : CfgOK s10 := addLL_ok s9_ok (by kernel_rfl) fun lo st alts ex st' h hp => by
  unfold l_Enc at h
  split at h
  · simp only [Option.some.injEq] at h
    subst h
    rename_i l n sz bg
    cases hf : M.okF sz bg with
    | false => simp [hf, pickL] at hp
    | true =>
      cases hL : M.okL l n with
      | false => simp [hf, hL, pickL] at hp
      | true =>
        unfold M.okL at hL
        simp only [Bool.and_eq_true, decide_eq_true_eq] at hL
        obtain ⟨rfl, hl⟩ := hL
        obtain ⟨h1, h2⟩ := e_loop sz bg hf l hl (fun ex st => some (ex, st))
        rw [allN_getD] at h1 h2
        refine loop_known (m := 0) (kp := keep 49 1) s9_ok noCall_ok ?_
        have hL' : M.okL l l.length = true := by simp [M.okL, hl]
        cases ha : l.all M.smp with
        | true =>
          simp only [hf, hL', ha, pickL, Bool.and_self, cond_true, Option.some.injEq, Prod.mk.injEq] at hp
          obtain ⟨rfl, rfl⟩ := hp
          exact h1 ha
        | false =>
          simp only [hf, hL', ha, pickL, Bool.and_self, Bool.and_false, cond_true, cond_false, Option.some.injEq, Prod.mk.injEq] at hp
          obtain ⟨rfl, rfl⟩ := hp
          exact h2 ha
  · cases h

theorem enc_end (k : Int) (l : List Int) (sz : Int) (bg : Bool) (hf : M.okF sz bg = true) (hk : M.fsz k = sz) (hb : M.fbg k = bg) (c : Bool) (hc : l.length ≤ 524288 → c = true) (X : Option (AV × Upd × Nat)) :
    Ev (bif decide ((l.length : Int) > 524288) then some (.tuple [.nilsl, .int .i64 3], [], 0) else bif c then (bif M.okF sz bg && M.okL l l.length && l.all M.smp then some (.tuple [.vi .u8 ((l.take l.length).flatMap (M.encS sz bg)), .int .i64 0], [], 0) else bif M.okF sz bg && M.okL l l.length then some (.tuple [.nilsl, .int .i64 2], [], 0) else X) else X)
      (.tuple [.vi .u8 (M.encL k l), .int .i64 (M.encE k l)]) := by
  have hz : (M.fsz k == 0) = false := by rw [hk]; rcases okF_cases hf with ⟨rfl, _⟩ | ⟨rfl, _⟩ | ⟨rfl, _⟩ | ⟨rfl, _⟩ | ⟨rfl, _⟩ | ⟨rfl, _⟩ | ⟨rfl, _⟩ <;> rfl
  by_cases hl : (l.length : Int) > 524288
  · have hE : M.encE k l = 3 := by unfold M.encE; rw [hz, decide_eq_true hl]; rfl
    have hLL : M.encL k l = [] := by unfold M.encL; rw [hE]; rfl
    rw [hE, hLL, decide_eq_true hl]
    exact ⟨_, [], 0, rfl, rfl, .tuple (.cons (.leaf (.nil _)) (.refl _))⟩
  · have hl' : l.length ≤ 524288 := by omega
    have hL : M.okL l l.length = true := by simp [M.okL, hl']
    rw [decide_eq_false hl, hc hl', hf, hL]
    cases ha : l.all M.smp with
    | true =>
      have hE : M.encE k l = 0 := by unfold M.encE; rw [hz, decide_eq_false hl, ha]; rfl
      have hLL : M.encL k l = l.flatMap (M.encS sz bg) := by unfold M.encL; rw [hE, hk, hb]; rfl
      rw [hE, hLL, List.take_length]
      exact ⟨_, [], 0, rfl, rfl, .refl _⟩
    | false =>
      have hE : M.encE k l = 2 := by unfold M.encE; rw [hz, decide_eq_false hl, ha]; rfl
      have hLL : M.encL k l = [] := by unfold M.encL; rw [hE]; rfl
      rw [hE, hLL]
      exact ⟨_, [], 0, rfl, rfl, .tuple (.cons (.leaf (.nil _)) (.refl _))⟩

theorem e_Encode (k : Int) (l : List Int) : Ev (callB s10 noCall 0 49 [.int .i64 k, .vi .i32 l] [] 0) (.tuple [.vi .u8 (M.encL k l), .int .i64 (M.encE k l)]) := by
  rw [show callB s10 noCall 0 49 [.int .i64 k, .vi .i32 l] [] 0 = (bif k == 1 then (bif decide ((l.length : Int) > 524288) then some (.tuple [.nilsl, .int .i64 3], [], 0) else bif decide (0 ≤ M.w64 ((l.length : Int) * 1)) && decide (M.w64 ((l.length : Int) * 1) ≤ 4294967296) && true then (bif M.okF 1 false && M.okL l l.length && l.all M.smp then some (.tuple [.vi .u8 ((l.take l.length).flatMap (M.encS 1 false)), .int .i64 0], [], 0) else bif M.okF 1 false && M.okL l l.length then some (.tuple [.nilsl, .int .i64 2], [], 0) else none) else none) else bif k == 2 then (bif decide ((l.length : Int) > 524288) then some (.tuple [.nilsl, .int .i64 3], [], 0) else bif decide (0 ≤ M.w64 ((l.length : Int) * 2)) && decide (M.w64 ((l.length : Int) * 2) ≤ 4294967296) && true then (bif M.okF 2 false && M.okL l l.length && l.all M.smp then some (.tuple [.vi .u8 ((l.take l.length).flatMap (M.encS 2 false)), .int .i64 0], [], 0) else bif M.okF 2 false && M.okL l l.length then some (.tuple [.nilsl, .int .i64 2], [], 0) else none) else none) else bif k == 3 then (bif decide ((l.length : Int) > 524288) then some (.tuple [.nilsl, .int .i64 3], [], 0) else bif decide (0 ≤ M.w64 ((l.length : Int) * 2)) && decide (M.w64 ((l.length : Int) * 2) ≤ 4294967296) && true then (bif M.okF 2 true && M.okL l l.length && l.all M.smp then some (.tuple [.vi .u8 ((l.take l.length).flatMap (M.encS 2 true)), .int .i64 0], [], 0) else bif M.okF 2 true && M.okL l l.length then some (.tuple [.nilsl, .int .i64 2], [], 0) else none) else none) else bif k == 4 then (bif decide ((l.length : Int) > 524288) then some (.tuple [.nilsl, .int .i64 3], [], 0) else bif decide (0 ≤ M.w64 ((l.length : Int) * 3)) && decide (M.w64 ((l.length : Int) * 3) ≤ 4294967296) && true then (bif M.okF 3 false && M.okL l l.length && l.all M.smp then some (.tuple [.vi .u8 ((l.take l.length).flatMap (M.encS 3 false)), .int .i64 0], [], 0) else bif M.okF 3 false && M.okL l l.length then some (.tuple [.nilsl, .int .i64 2], [], 0) else none) else none) else bif k == 5 then (bif decide ((l.length : Int) > 524288) then some (.tuple [.nilsl, .int .i64 3], [], 0) else bif decide (0 ≤ M.w64 ((l.length : Int) * 3)) && decide (M.w64 ((l.length : Int) * 3) ≤ 4294967296) && true then (bif M.okF 3 true && M.okL l l.length && l.all M.smp then some (.tuple [.vi .u8 ((l.take l.length).flatMap (M.encS 3 true)), .int .i64 0], [], 0) else bif M.okF 3 true && M.okL l l.length then some (.tuple [.nilsl, .int .i64 2], [], 0) else none) else none) else bif k == 6 then (bif decide ((l.length : Int) > 524288) then some (.tuple [.nilsl, .int .i64 3], [], 0) else bif decide (0 ≤ M.w64 ((l.length : Int) * 4)) && decide (M.w64 ((l.length : Int) * 4) ≤ 4294967296) && true then (bif M.okF 4 false && M.okL l l.length && l.all M.smp then some (.tuple [.vi .u8 ((l.take l.length).flatMap (M.encS 4 false)), .int .i64 0], [], 0) else bif M.okF 4 false && M.okL l l.length then some (.tuple [.nilsl, .int .i64 2], [], 0) else none) else none) else bif k == 7 then (bif decide ((l.length : Int) > 524288) then some (.tuple [.nilsl, .int .i64 3], [], 0) else bif decide (0 ≤ M.w64 ((l.length : Int) * 4)) && decide (M.w64 ((l.length : Int) * 4) ≤ 4294967296) && true then (bif M.okF 4 true && M.okL l l.length && l.all M.smp then some (.tuple [.vi .u8 ((l.take l.length).flatMap (M.encS 4 true)), .int .i64 0], [], 0) else bif M.okF 4 true && M.okL l l.length then some (.tuple [.nilsl, .int .i64 2], [], 0) else none) else none) else some (.tuple [.nilsl, .int .i64 1], [], 0)) by kernel_rfl]
  rcases kinds k with rfl | rfl | rfl | rfl | rfl | rfl | rfl | ⟨h1, h2, h3, h4, h5, h6, h7⟩
  · exact enc_end 1 l 1 false rfl rfl rfl _ (fun h => by rw [w64_in (by omega) (by omega), decide_eq_true (by omega), decide_eq_true (by omega)]; rfl) none
  · exact enc_end 2 l 2 false rfl rfl rfl _ (fun h => by rw [w64_in (by omega) (by omega), decide_eq_true (by omega), decide_eq_true (by omega)]; rfl) none
  · exact enc_end 3 l 2 true rfl rfl rfl _ (fun h => by rw [w64_in (by omega) (by omega), decide_eq_true (by omega), decide_eq_true (by omega)]; rfl) none
  · exact enc_end 4 l 3 false rfl rfl rfl _ (fun h => by rw [w64_in (by omega) (by omega), decide_eq_true (by omega), decide_eq_true (by omega)]; rfl) none
  · exact enc_end 5 l 3 true rfl rfl rfl _ (fun h => by rw [w64_in (by omega) (by omega), decide_eq_true (by omega), decide_eq_true (by omega)]; rfl) none
  · exact enc_end 6 l 4 false rfl rfl rfl _ (fun h => by rw [w64_in (by omega) (by omega), decide_eq_true (by omega), decide_eq_true (by omega)]; rfl) none
  · exact enc_end 7 l 4 true rfl rfl rfl _ (fun h => by rw [w64_in (by omega) (by omega), decide_eq_true (by omega), decide_eq_true (by omega)]; rfl) none
  · simp only [h1, h2, h3, h4, h5, h6, h7, cond_false]
    have hE : M.encE k l = 1 := by unfold M.encE M.fsz; simp only [h1, h2, h3, h4, h5, h6, h7, cond_false]; rfl
    have hLL : M.encL k l = [] := by unfold M.encL; rw [hE]; rfl
    rw [hE, hLL]
    exact ⟨_, [], 0, rfl, rfl, .tuple (.cons (.leaf (.nil _)) (.refl _))⟩
def m_Encode : List AV → Option (Bool × AV)
  | [.int .i64 k, l_] => (asVi .i32 l_).bind fun l => some (true, .tuple [.vi .u8 (M.encL k l), .int .i64 (M.encE k l)])
  | _ => none
noncomputable def s11 : Cfg := s10.add 49 m_Encode
theorem s11_ok : CfgOK s11 := add_ok s10_ok fun xs v h => by
  unfold m_Encode at h; split at h
  · obtain ⟨l, h_l, h⟩ := Option.bind_eq_some_iff.1 h
    simp only [Option.some.injEq, Prod.mk.injEq, true_and] at h; subst h
    exact Ev.pure s10_ok noCall_ok (e_Encode _ _) (.cons (.leaf (.refl _)) (.cons (.leaf (asVi_le h_l)) (.refl _)))
  · cases h

end Go.Proofs.Ytooiechjanmdjaa
