/- Plain laws of the conversion of rates: what is mixed; samples stay samples. -/
import Derived.Test.YtooiechjanmdjaaCvM
import Derived.Test.YtooiechjanmdjaaCp
import Derived.Test.YtooiechjanmdjaaMaT
namespace Go.Proofs.Ytooiechjanmdjaa
open Am
set_option maxRecDepth 100000
set_option linter.unusedVariables false
set_option linter.unusedSimpArgs false
theorem smp_two {s : Int} : M.smp s = true ↔ -8388608 ≤ s ∧ s ≤ 8388607 := by
  unfold M.smp
  rw [Bool.and_eq_true, decide_eq_true_iff, decide_eq_true_iff]
theorem mul_in {x a X A : Int} (h1 : -X ≤ x) (h2 : x ≤ X) (h3 : 0 ≤ a) (h4 : a ≤ A) (hX : 0 ≤ X) : -(X * A) ≤ x * a ∧ x * a ≤ X * A := by
  have e1 : x * a ≤ X * a := Int.mul_le_mul_of_nonneg_right h2 h3
  have e2 : -X * a ≤ x * a := Int.mul_le_mul_of_nonneg_right h1 h3
  have e3 : X * a ≤ X * A := Int.mul_le_mul_of_nonneg_left h4 hX
  rw [Int.neg_mul] at e2
  omega
theorem floor_eq (S : Int) {pt : Int} (h : 0 < pt) : (bif decide (S.tmod pt < 0) then S.tdiv pt - 1 else S.tdiv pt) = S / pt := by
  have m0 := Int.emod_nonneg S (show pt ≠ 0 by omega)
  have m1 := Int.emod_lt_of_pos S h
  rw [Int.tmod_eq_emod, Int.tdiv_eq_ediv]
  by_cases hc : 0 ≤ S ∨ pt ∣ S
  · rw [if_pos hc, if_pos hc, decide_eq_false (by omega)]; simp
  · rw [if_neg hc, if_neg hc, decide_eq_true (by omega), Int.sign_eq_one_of_pos h]; simp
theorem mixV_eq {pt g x y : Int} (h1 : 0 < pt) (h2 : pt ≤ 50331648000) (h3 : 0 ≤ g) (h4 : g < pt) (hx : M.smp x = true) (hy : M.smp y = true) :
    M.mixV pt g x y = (x * (pt - g) + y * g + pt / 2) / pt ∧ M.smp (M.mixV pt g x y) = true := by
  rw [smp_two] at hx hy
  have a1 := mul_in (X := 8388608) (A := 50331648000) (x := x) (a := pt - g) (by omega) (by omega) (by omega) (by omega) (by omega)
  have a2 := mul_in (X := 8388608) (A := 50331648000) (x := y) (a := g) (by omega) (by omega) (by omega) (by omega) (by omega)
  have b1 : -8388608 * (pt - g) ≤ x * (pt - g) := Int.mul_le_mul_of_nonneg_right (by omega) (by omega)
  have b2 : -8388608 * g ≤ y * g := Int.mul_le_mul_of_nonneg_right (by omega) (by omega)
  have b3 : x * (pt - g) ≤ 8388607 * (pt - g) := Int.mul_le_mul_of_nonneg_right (by omega) (by omega)
  have b4 : y * g ≤ 8388607 * g := Int.mul_le_mul_of_nonneg_right (by omega) (by omega)
  have hp : pt.tdiv 2 = pt / 2 := Int.tdiv_eq_ediv_of_nonneg (by omega)
  have hS : M.mixS pt g x y = x * (pt - g) + y * g + pt / 2 := by
    unfold M.mixS
    rw [w64_in (n := x) (by omega) (by omega), w64_in (n := pt - g) (by omega) (by omega), w64_in (n := y) (by omega) (by omega), hp]
    generalize x * (pt - g) = u at *
    generalize y * g = v at *
    rw [w64_in (n := u) (by omega) (by omega), w64_in (n := v) (by omega) (by omega), w64_in (n := u + v) (by omega) (by omega), w64_in (n := pt / 2) (by omega) (by omega), w64_in (by omega) (by omega)]
  have hlo : -8388608 ≤ (x * (pt - g) + y * g + pt / 2) / pt := Int.le_ediv_of_mul_le h1 (by omega)
  have hhi : (x * (pt - g) + y * g + pt / 2) / pt < 8388608 := Int.ediv_lt_of_lt_mul h1 (by omega)
  have hf := floor_eq (x * (pt - g) + y * g + pt / 2) h1
  have key : M.mixV pt g x y = (x * (pt - g) + y * g + pt / 2) / pt := by
    unfold M.mixV
    rw [hS]
    generalize x * (pt - g) + y * g + pt / 2 = S at *
    rw [Bool.cond_decide] at hf ⊢
    split at hf
    · rename_i hn
      rw [if_pos hn, w64_in (n := S.tdiv pt) (by omega) (by omega), w64_in (n := S.tdiv pt - 1) (by omega) (by omega), hf, w32_in (by omega) (by omega)]
    · rename_i hn
      rw [if_neg hn, w64_in (n := S.tdiv pt) (by omega) (by omega), hf, w32_in (by omega) (by omega)]
  exact ⟨key, by rw [key, smp_two]; omega⟩
theorem mixV_here {pt x y : Int} (h1 : 0 < pt) (h2 : pt ≤ 50331648000) (hx : M.smp x = true) (hy : M.smp y = true) : M.mixV pt 0 x y = x := by
  rw [(mixV_eq h1 h2 (Int.le_refl 0) h1 hx hy).1, Int.sub_zero, Int.mul_zero, Int.add_zero, Int.add_comm, Int.add_mul_ediv_right _ _ (by omega), Int.ediv_eq_zero_of_lt (by omega) (by omega)]
  omega
theorem mixV_zero {pt g : Int} (h1 : 0 < pt) (h2 : pt ≤ 50331648000) (h3 : 0 ≤ g) (h4 : g < pt) : M.mixV pt g 0 0 = 0 := by
  rw [(mixV_eq h1 h2 h3 h4 rfl rfl).1, Int.zero_mul, Int.zero_mul, Int.add_zero, Int.zero_add]
  exact Int.ediv_eq_zero_of_lt (by omega) (by omega)
theorem smp_getD {l : List Int} (h : l.all M.smp = true) (i : Nat) : M.smp (l.getD i 0) = true := by
  by_cases hi : i < l.length
  · rw [List.getD_eq_getElem?_getD, List.getElem?_eq_getElem hi]
    exact List.all_eq_true.1 h _ (List.getElem_mem hi)
  · rw [List.getD_eq_getElem?_getD, List.getElem?_eq_none (by omega)]; rfl
theorem smp_frm {c : Int} {l : List Int} {k : Int} (h : l.all M.smp = true) : (M.frm c l k).all M.smp = true := by
  rw [List.all_eq_true] at h ⊢
  intro x hx
  exact h x (List.mem_of_mem_drop (List.mem_of_mem_take hx))
theorem psF_range {n d j p f : Int} (h : Ph.PV ⟨n, d, j, p, f⟩) (i : Int) : 0 < d * 65536 ∧ d * 65536 ≤ 50331648000 ∧ 0 ≤ M.psF n d j f i ∧ M.psF n d j f i < d * 65536 := by
  obtain ⟨⟨x1, x2, x3⟩, ⟨y1, y2⟩, _⟩ := Ph.valid_iff.1 h
  simp only at x2 y2
  unfold M.psF
  exact ⟨by omega, by omega, Int.emod_nonneg _ (by omega), Int.emod_lt_of_pos _ (by omega)⟩
theorem outF_smp {c n d j p f : Int} {l : List Int} (h : Ph.PV ⟨n, d, j, p, f⟩) (hl : l.all M.smp = true) (i : Int) : (M.outF c n d j f l i).all M.smp = true := by
  obtain ⟨a1, a2, a3, a4⟩ := psF_range h i
  unfold M.outF M.rowV
  rw [List.all_map, List.all_eq_true]
  intro z hz
  exact (mixV_eq a1 a2 a3 a4 (smp_getD (smp_frm hl) z) (smp_getD (smp_frm hl) z)).2
theorem outD_smp {c n d j p f : Int} {l : List Int} (h : Ph.PV ⟨n, d, j, p, f⟩) (hl : l.all M.smp = true) (m : Nat) : (M.outD c n d j f l m).all M.smp = true := by
  unfold M.outD
  rw [List.all_flatMap, List.all_eq_true]
  intro i _
  exact outF_smp h hl i
theorem apD_smp (n m : Int) (co l : List Int) (F : Nat) : (M.apD n m co l F).all M.smp = true := by
  unfold M.apD M.apF
  rw [List.all_flatMap, List.all_eq_true]
  intro i _
  rw [List.all_map, List.all_eq_true]
  intro r _
  exact Sp.sat_smp _
end Go.Proofs.Ytooiechjanmdjaa
