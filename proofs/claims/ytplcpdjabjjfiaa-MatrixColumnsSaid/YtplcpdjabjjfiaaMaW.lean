/- Matrices, plain laws: a block in parts comes out as it does at once. -/
import Derived.Test.YtplcpdjabjjfiaaMaV
namespace Go.Proofs.Ytplcpdjabjjfiaa
open Am
set_option maxRecDepth 100000
set_option linter.unusedVariables false
set_option linter.unusedSimpArgs false

theorem sub_cut {l : List Int} {b a k m : Nat} (h : k + m ≤ a) : (((l.drop b).take a).drop k).take m = (l.drop (b + k)).take m := by
  rw [List.drop_take, List.take_take, List.drop_drop, Nat.min_eq_left (by omega)]
theorem cutF_nat (c f t : Nat) (l : List Int) : M.cutF c l f t = (l.drop (f * c)).take (t * c - f * c) := by
  unfold M.cutF
  rw [← Int.natCast_mul, ← Int.natCast_mul, Int.toNat_natCast, Int.toNat_natCast]
theorem cutN_nat (n i : Nat) (l : List Int) : M.cutN l ((i : Int) * n) ((i : Int) * n + n) = (l.drop (i * n)).take n := by
  unfold M.cutN
  rw [← Int.natCast_mul, ← Int.natCast_add, Int.toNat_natCast, Int.toNat_natCast, Nat.mul_one, Nat.mul_one, Nat.add_sub_cancel_left]
theorem cutN_cutF {n f t i : Nat} {l : List Int} (hi : i < t - f) : M.cutN (M.cutF n l f t) ((i : Int) * n) ((i : Int) * n + n) = M.cutN l (((f + i : Nat) : Int) * n) (((f + i : Nat) : Int) * n + n) := by
  rw [cutN_nat, cutN_nat, cutF_nat, sub_cut, Nat.add_mul]
  have : i * n + n ≤ (t - f) * n := by rw [← Nat.succ_mul]; exact Nat.mul_le_mul_right _ hi
  rw [Nat.sub_mul] at this
  exact this
theorem apD_cutF {n f t : Nat} {m : Int} {co l : List Int} (hft : f ≤ t) : M.apD n m co l f ++ M.apD n m co (M.cutF n l f t) (t - f) = M.apD n m co l t := by
  have e : M.apD n m co (M.cutF n l f t) (t - f) = (List.range (t - f)).flatMap fun i => M.apF n m co l (((f + i : Nat) : Int) * n) m.toNat := by
    unfold M.apD
    rw [List.flatMap_def, List.flatMap_def]
    congr 1
    refine List.map_congr_left fun i hi => ?_
    have hi' := List.mem_range.1 hi
    unfold M.apF
    refine List.map_congr_left fun r _ => ?_
    rw [cutN_cutF hi']
  rw [e]
  obtain ⟨d, rfl⟩ : ∃ d, t = f + d := ⟨t - f, by omega⟩
  rw [Nat.add_sub_cancel_left]
  unfold M.apD
  rw [List.range_add, List.flatMap_append, List.flatMap_map]
namespace M
def apP (n m : Int) (co p : List Int) : List Int := apD n m co p (p.length / n.toNat)
/-- what comes out of the first parts -/
def accP (n m : Int) (co : List Int) (P : List (Int × List Int)) : Nat → List Int
  | 0 => []
  | i + 1 => accP n m co P i ++ apP n m co (P.getD i (0, [])).2
end M
theorem accP_append {n m : Int} {co : List Int} {P Q : List (Int × List Int)} : ∀ i, i ≤ P.length → M.accP n m co (P ++ Q) i = M.accP n m co P i
  | 0, _ => rfl
  | i + 1, h => by
    show M.accP n m co (P ++ Q) i ++ _ = M.accP n m co P i ++ _
    rw [accP_append i (by omega), List.getD_eq_getElem?_getD, List.getElem?_append_left (by omega), ← List.getD_eq_getElem?_getD]
theorem accP_snoc {n m : Int} {co : List Int} {P : List (Int × List Int)} {q : Int × List Int} : M.accP n m co (P ++ [q]) (P ++ [q]).length = M.accP n m co P P.length ++ M.apP n m co q.2 := by
  rw [List.length_append]
  show M.accP n m co (P ++ [q]) P.length ++ _ = _
  rw [accP_append _ (Nat.le_refl _), List.getD_eq_getElem?_getD, List.getElem?_append_right (Nat.le_refl _), Nat.sub_self]
  rfl
theorem cutF_len {c f t : Nat} {l : List Int} (hft : f ≤ t) (ht : t * c ≤ l.length) : (M.cutF c l f t).length = (t - f) * c := by
  have := Nat.mul_le_mul_right c hft
  rw [cutF_nat, List.length_take, List.length_drop, Nat.sub_mul]
  omega
theorem apP_cutF {c f t : Nat} {m : Int} {co l : List Int} (hc : 1 ≤ c) (hft : f ≤ t) (ht : t * c ≤ l.length) : M.apD c m co l f ++ M.apP c m co (M.cutF c l f t) = M.apD c m co l t := by
  unfold M.apP
  rw [cutF_len hft ht, Int.toNat_natCast, Nat.mul_div_cancel _ (by omega)]
  exact apD_cutF hft
/-- the parts behind some numbers, all at once -/
theorem acc_cutL {c n : Nat} {m : Int} {co l t : List Int} (hc : 1 ≤ c) (hn : n * c ≤ l.length) (ht : M.byt t = true) : ∀ j, M.accP c m co (M.cutL c l n t j) (M.cutL c l n t j).length = M.apD c m co l (M.cutS n t j).toNat
  | 0 => rfl
  | j + 1 => by
    have ih := acc_cutL (m := m) (co := co) hc hn ht j
    obtain ⟨s1, s2⟩ := cutS_range (n := (n : Int)) (by omega) ht j
    have q := tmod8 (byt_getD ht j).1
    have d1 : M.cutS n t (j + 1) = (bif decide (M.cutS n t j + (t.getD j 0).tmod 8 ≤ n) then M.cutS n t j + (t.getD j 0).tmod 8 else M.cutS n t j) := rfl
    have d2 : M.cutL c l n t (j + 1) = (bif decide (M.cutS n t j + (t.getD j 0).tmod 8 ≤ n) then M.cutL c l n t j ++ [((c : Int), M.cutF c l (M.cutS n t j) (M.cutS n t j + (t.getD j 0).tmod 8))] else M.cutL c l n t j) := rfl
    rw [d1, d2]
    by_cases hd : M.cutS n t j + (t.getD j 0).tmod 8 ≤ n
    · rw [decide_eq_true hd, cond_true, cond_true, accP_snoc, ih]
      obtain ⟨f, hf⟩ := Int.eq_ofNat_of_zero_le s1
      obtain ⟨k, hk⟩ := Int.eq_ofNat_of_zero_le q.1
      rw [hf, hk] at hd ⊢
      have hle : (f + k) * c ≤ n * c := Nat.mul_le_mul_right _ (by omega)
      rw [← Int.natCast_add, Int.toNat_natCast, Int.toNat_natCast]
      exact apP_cutF hc (by omega) (by omega)
    · rw [decide_eq_false hd]; exact ih
theorem acc_cutA {c n : Nat} {m : Int} {co l t : List Int} (hc : 1 ≤ c) (hn : n * c ≤ l.length) (hfr : M.frames c l = n) (ht : M.byt t = true) : M.accP c m co (M.cutA c l t) (M.cutA c l t).length = M.apD c m co l n := by
  unfold M.cutA
  rw [hfr, accP_snoc, acc_cutL hc hn ht]
  obtain ⟨s1, s2⟩ := cutS_range (n := (n : Int)) (by omega) ht t.length
  obtain ⟨f, hf⟩ := Int.eq_ofNat_of_zero_le s1
  rw [hf] at s2 ⊢
  rw [Int.toNat_natCast]
  exact apP_cutF hc (by omega) hn
/-- every part is a block of whole frames -/
theorem cutA_parts {c n : Nat} {l t : List Int} (hn : n * c ≤ l.length) (hfr : M.frames c l = n) (ht : M.byt t = true) : ∀ p, p ∈ M.cutA c l t → p.1 = c ∧ ∃ f k : Nat, f ≤ k ∧ k ≤ n ∧ p.2 = M.cutF c l f k := by
  have hL : ∀ j p, p ∈ M.cutL c l n t j → p.1 = c ∧ ∃ f k : Nat, f ≤ k ∧ k ≤ n ∧ p.2 = M.cutF c l f k := by
    intro j
    induction j with
    | zero => intro p hp; cases hp
    | succ j ih =>
      intro p hp
      obtain ⟨s1, s2⟩ := cutS_range (n := (n : Int)) (by omega) ht j
      have q := tmod8 (byt_getD ht j).1
      have d2 : M.cutL c l n t (j + 1) = (bif decide (M.cutS n t j + (t.getD j 0).tmod 8 ≤ n) then M.cutL c l n t j ++ [((c : Int), M.cutF c l (M.cutS n t j) (M.cutS n t j + (t.getD j 0).tmod 8))] else M.cutL c l n t j) := rfl
      rw [d2] at hp
      by_cases hd : M.cutS n t j + (t.getD j 0).tmod 8 ≤ n
      · rw [decide_eq_true hd, cond_true, List.mem_append] at hp
        rcases hp with hp | hp
        · exact ih p hp
        · rw [List.mem_singleton] at hp
          subst hp
          exact ⟨rfl, (M.cutS n t j).toNat, (M.cutS n t j + (t.getD j 0).tmod 8).toNat, by omega, by omega, by rw [Int.toNat_of_nonneg s1, Int.toNat_of_nonneg (by omega)]⟩
      · rw [decide_eq_false hd] at hp; exact ih p hp
  intro p hp
  unfold M.cutA at hp
  rw [hfr, List.mem_append] at hp
  rcases hp with hp | hp
  · exact hL _ p hp
  · rw [List.mem_singleton] at hp
    subst hp
    obtain ⟨s1, s2⟩ := cutS_range (n := (n : Int)) (by omega) ht t.length
    exact ⟨rfl, (M.cutS n t t.length).toNat, n, by omega, Nat.le_refl _, by rw [Int.toNat_of_nonneg s1]⟩
theorem accP_len {n m : Int} {co : List Int} {P : List (Int × List Int)} {B : Nat} (h : ∀ p, p ∈ P → (M.apP n m co p.2).length ≤ B) : ∀ i, i ≤ P.length → (M.accP n m co P i).length ≤ i * B
  | 0, _ => by simp [M.accP]
  | i + 1, hi => by
    have ih := accP_len h i (by omega)
    have hm := h (P.getD i (0, [])) (by rw [List.getD_eq_getElem?_getD, List.getElem?_eq_getElem (by omega)]; exact List.getElem_mem _)
    show (M.accP n m co P i ++ M.apP n m co (P.getD i (0, [])).2).length ≤ (i + 1) * B
    rw [List.length_append, Nat.add_mul, Nat.one_mul]
    omega
end Go.Proofs.Ytplcpdjabjjfiaa
