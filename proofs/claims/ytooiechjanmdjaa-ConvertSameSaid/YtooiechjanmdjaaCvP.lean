/- Plain laws of the conversion of rates: how many frames, and in pieces. -/
import Derived.Test.YtooiechjanmdjaaCvN
namespace Go.Proofs.Ytooiechjanmdjaa
open Am
set_option maxRecDepth 100000
set_option linter.unusedVariables false
set_option linter.unusedSimpArgs false
theorem psK_add {n d j f : Int} (hd : 0 < d) (m i : Int) : M.psK n d j f (m + i) = M.psK n d j f m + M.psK n d j (M.psF n d j f m) i ∧ M.psF n d j f (m + i) = M.psF n d j (M.psF n d j f m) i := by
  have e := Int.mul_ediv_add_emod (f + m * n * (65536 + j)) (d * 65536)
  have h : f + (m + i) * n * (65536 + j) = (f + m * n * (65536 + j)) % (d * 65536) + i * n * (65536 + j) + (d * 65536) * ((f + m * n * (65536 + j)) / (d * 65536)) := by
    rw [Int.add_mul, Int.add_mul]; omega
  unfold M.psK M.psF
  rw [h, Int.add_mul_ediv_left _ _ (by omega), Int.add_mul_emod_self_left]
  exact ⟨Int.add_comm _ _, rfl⟩
theorem psK_mono {n d j f : Int} (hd : 0 < d) (hs : 0 ≤ n * (65536 + j)) {a b : Int} (h : a ≤ b) : M.psK n d j f a ≤ M.psK n d j f b := by
  unfold M.psK
  refine Int.ediv_le_ediv (by omega) ?_
  rw [Int.mul_assoc, Int.mul_assoc]
  have := Int.mul_le_mul_of_nonneg_right h hs
  omega
theorem psK_nonneg {n d j f : Int} (hd : 0 < d) (hs : 0 ≤ n * (65536 + j)) (hf : 0 ≤ f) {a : Int} (h : 0 ≤ a) : 0 ≤ M.psK n d j f a := by
  unfold M.psK
  refine Int.ediv_nonneg ?_ (by omega)
  rw [Int.mul_assoc]
  have := Int.mul_nonneg h hs
  omega
/-- the input frames that k output frames need -/
def nd (n d j f k : Int) : Int := Ph.needOf ⟨n, d, j, 0, f⟩ k
theorem nd_pos {n d j f k : Int} (h : 1 ≤ k) : nd n d j f k = if M.psK n d j f (k - 1) + 2 < M.psK n d j f k then M.psK n d j f k else M.psK n d j f (k - 1) + 2 := by
  unfold nd Ph.needOf
  rw [if_neg (by omega), Ph.mx_def]
  have e1 : Ph.far ⟨n, d, j, 0, f⟩ (k - 1) / (d * 65536) = M.psK n d j f (k - 1) := rfl
  have e2 : Ph.far ⟨n, d, j, 0, f⟩ k / (d * 65536) = M.psK n d j f k := rfl
  simp only [e1, e2]
theorem nd_mono {n d j f : Int} (hd : 0 < d) (hs : 0 ≤ n * (65536 + j)) {a b : Int} (h1 : 1 ≤ a) (h : a ≤ b) : nd n d j f a ≤ nd n d j f b := by
  have e1 := psK_mono (f := f) hd hs (a := a - 1) (b := b - 1) (by omega)
  have e2 := psK_mono (f := f) hd hs h
  rw [nd_pos h1, nd_pos (by omega)]
  split <;> split <;> omega
/-- so many frames can be made -/
def Cn (n d j f A r : Int) : Prop := 0 ≤ r ∧ A < nd n d j f (r + 1) ∧ (0 < r → nd n d j f r ≤ A)
theorem Cn_unique {n d j f A r s : Int} (hd : 0 < d) (hs : 0 ≤ n * (65536 + j)) (h : Cn n d j f A r) (h' : Cn n d j f A s) : r = s := by
  obtain ⟨a1, a2, a3⟩ := h
  obtain ⟨b1, b2, b3⟩ := h'
  rcases Int.lt_trichotomy r s with hl | hl | hl
  · have := nd_mono (f := f) hd hs (a := r + 1) (b := s) (by omega) (by omega)
    have := b3 (by omega); omega
  · exact hl
  · have := nd_mono (f := f) hd hs (a := s + 1) (b := r) (by omega) (by omega)
    have := a3 (by omega); omega
theorem nd_add {n d j f : Int} (hd : 0 < d) (m : Int) (hm : 0 ≤ m) {i : Int} (hi : 1 ≤ i) : nd n d j f (m + i) = M.psK n d j f m + nd n d j (M.psF n d j f m) i := by
  rw [nd_pos (by omega), nd_pos hi, show m + i - 1 = m + (i - 1) by omega, (psK_add hd m i).1, (psK_add hd m (i - 1)).1]
  split <;> split <;> omega
/-- the frames of a piece, and then those of the rest -/
theorem Cn_add {n d j f : Int} (hd : 0 < d) (hs : 0 ≤ n * (65536 + j)) {A1 A m r : Int} (hA : A1 ≤ A) (h1 : Cn n d j f A1 m) (h2 : Cn n d j (M.psF n d j f m) (A - M.psK n d j f m) r) : Cn n d j f A (m + r) := by
  obtain ⟨a1, a2, a3⟩ := h1
  obtain ⟨b1, b2, b3⟩ := h2
  refine ⟨by omega, ?_, fun h => ?_⟩
  · rw [show m + r + 1 = m + (r + 1) by omega, nd_add hd m a1 (by omega)]; omega
  · by_cases hr : r = 0
    · subst hr; rw [Int.add_zero]; have := a3 (by omega); omega
    · rw [nd_add hd m a1 (by omega)]; have := b3 (by omega); omega
/-- at most twelve output frames are made of one -/
theorem nd_bound {n d f A r : Int} (hd : 0 < d) (hn : 0 < n) (h12 : d ≤ 12 * n) (hf : 0 ≤ f) (hr : 1 ≤ r) (h : nd n d 0 f r ≤ A) : r ≤ 12 * A := by
  have e : M.psK n d 0 f (r - 1) + 2 ≤ A := by rw [nd_pos hr] at h; split at h <;> omega
  have e2 : M.psK n d 0 f (r - 1) < A - 1 := by omega
  unfold M.psK at e2
  have e3 := (Int.ediv_lt_iff_lt_mul (by omega)).1 e2
  have hA : 0 ≤ A - 1 := by
    have : 0 ≤ (f + (r - 1) * n * (65536 + 0)) / (d * 65536) := Int.ediv_nonneg (by have := Int.mul_nonneg (show 0 ≤ r - 1 by omega) (show 0 ≤ n by omega); omega) (by omega)
    omega
  have e4 : (A - 1) * (d * 65536) ≤ (A - 1) * ((12 * n) * 65536) := Int.mul_le_mul_of_nonneg_left (by omega) hA
  have e5 : (r - 1) * n < (12 * (A - 1)) * n := by
    have : (A - 1) * ((12 * n) * 65536) = ((12 * (A - 1)) * n) * 65536 := by
      rw [← Int.mul_assoc, ← Int.mul_assoc, Int.mul_comm (A - 1) 12]
    omega
  have := Int.lt_of_mul_lt_mul_right e5 (by omega)
  omega
theorem cnt_Cn {n d p f A : Int} (h : Ph.PV ⟨n, d, 0, p, f⟩) (h12 : d ≤ 12 * n) (h1 : 0 ≤ A) (h2 : A ≤ 4096) : Cn n d 0 f A (Ph.M.mkCnt n d 0 p f A) ∧ Ph.M.mkCnt n d 0 p f A < 65536 := by
  obtain ⟨⟨x1, x2, x3⟩, ⟨y1, y2⟩, ⟨c1, c2⟩, z0, z1, z2⟩ := Ph.valid_iff.1 h
  simp only at x1 x2 z1 z2
  obtain ⟨a, b, c, e⟩ := cnt_spec h h1 (by omega)
  have hne : ∀ k, Ph.needOf ⟨n, d, 0, p, f⟩ k = nd n d 0 f k := fun k => rfl
  rw [hne] at c e
  have hlt : Ph.M.mkCnt n d 0 p f A < 65536 := by
    rcases Int.lt_or_le (Ph.M.mkCnt n d 0 p f A) 65536 with hq | hq
    · exact hq
    · have := nd_bound (by omega) (by omega) h12 (by omega) (by omega) (e (by omega))
      omega
  exact ⟨⟨a, c hlt, e⟩, hlt⟩
end Go.Proofs.Ytooiechjanmdjaa
