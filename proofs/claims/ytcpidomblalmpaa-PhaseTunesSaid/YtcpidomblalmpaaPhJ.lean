/- Plain laws of phases: the two ways to count what is needed and what can be made are the same. -/
import Derived.Test.YtcpidomblalmpaaPhI
namespace Go.Proofs.Ytcpidomblalmpaa
set_option linter.unusedVariables false
set_option linter.unusedSimpArgs false

theorem chk_nz {num den adj pos frac n : Int} (h : M.chk num den adj pos frac n ≠ 0) : (M.chk num den adj pos frac n != 0) = true := by simpa using h
theorem chk_z {num den adj pos frac n : Int} (h : M.chk num den adj pos frac n = 0) : (M.chk num den adj pos frac n != 0) = false := by simp [h]

/-- what is needed, without bounds -/
def needOf (p : M.Ph) (n : Int) : Int := if n = 0 then 0 else M.mx (far p (n - 1) / (p.den * 65536) + 2) (far p n / (p.den * 65536))

theorem mx_def (a b : Int) : M.mx a b = if b > a then b else a := rfl

theorem quot_ok {p : M.Ph} (h : PV p) {n : Int} (hn : 0 ≤ n) (hn2 : n ≤ 65536) : 0 ≤ far p n / (p.den * 65536) ∧ far p n / (p.den * 65536) ≤ 60000000000000000 ∧ M.w64 ((M.ahead p.num p.adj p.frac n).tdiv (M.parts p.den)) = far p n / (p.den * 65536) := by
  obtain ⟨⟨a1, a2, a3⟩, ⟨b1, b2⟩, _⟩ := valid_iff.1 h
  obtain ⟨f1, f2⟩ := far_le h hn hn2
  obtain ⟨g1, _⟩ := ahead_eq h hn hn2
  have hq : 0 ≤ far p n / (p.den * 65536) ∧ far p n / (p.den * 65536) ≤ far p n := ⟨Int.ediv_nonneg f1 (by omega), Int.ediv_le_self _ f1⟩
  refine ⟨hq.1, by omega, ?_⟩
  rw [g1, parts_eq a2 b2, Int.tdiv_eq_ediv_of_nonneg f1]
  exact w64_in (by omega) (by omega)

theorem need_ok {p : M.Ph} (h : PV p) {n : Int} (hn : 0 ≤ n) (hn2 : n ≤ 65536) : M.need p.num p.den p.adj p.frac n = needOf p n := by
  unfold M.need needOf
  by_cases h0 : n = 0
  · subst h0; rfl
  · have e : (n == 0) = false := by simpa using h0
    rw [e, if_neg h0, cond_false]
    have hw : M.w64 (n - 1) = n - 1 := w64_in (by omega) (by omega)
    obtain ⟨q1, q2, q3⟩ := quot_ok h (n := n - 1) (by omega) (by omega)
    obtain ⟨r1, r2, r3⟩ := quot_ok h hn hn2
    rw [hw, q3, r3, w64_in (n := far p (n - 1) / (p.den * 65536) + 2) (by omega) (by omega)]

theorem rNd_ok {p : M.Ph} (h : PV p) {n : Int} (hn : 0 ≤ n) (hn2 : n ≤ 65536) : M.rNd p.num p.den p.adj p.pos p.frac n = needOf p n := by
  obtain ⟨_, _, _, ⟨d1, d2⟩, _⟩ := valid_iff.1 h
  unfold M.rNd needOf
  rw [chk_z (chk_ok h hn hn2), cond_false]
  by_cases h0 : n = 0
  · subst h0; rfl
  · have e : (n == 0) = false := by simpa using h0
    rw [e, if_neg h0, cond_false]
    have hw : M.w64 (n - 1) = n - 1 := w64_in (by omega) (by omega)
    obtain ⟨q1, q2, q3⟩ := quot_ok h (n := n - 1) (by omega) (by omega)
    obtain ⟨r1, r2, r3⟩ := quot_ok h hn hn2
    obtain ⟨_, s1, _, _⟩ := at_ok h (n := n - 1) (by omega) (by omega)
    obtain ⟨_, s2, _, _⟩ := at_ok h hn hn2
    rw [hw, s1, s2]
    unfold posOf
    rw [w64_in (n := p.pos + far p (n - 1) / (p.den * 65536) + 2) (by omega) (by omega), mx_def, mx_def]
    generalize far p (n - 1) / (p.den * 65536) = x at *
    generalize far p n / (p.den * 65536) = y at *
    split <;> split <;> first
      | omega
      | (rw [w64_in (by omega) (by omega)]; omega)

theorem rNd_same (num den adj pos frac n : Int) : M.rNd num den adj pos frac n = M.ndV num den adj pos frac n := by
  by_cases h : M.chk num den adj pos frac n = 0
  · obtain ⟨hv, h0, h1⟩ := chk_zero h
    have a := rNd_ok hv h0 h1
    have b := need_ok hv h0 h1
    simp only at a b
    rw [a]; unfold M.ndV; rw [chk_z h, cond_false, b]
  · unfold M.rNd M.ndV; rw [chk_nz h]; rfl

theorem far_mono {p : M.Ph} (h : PV p) {n m : Int} (hnm : n ≤ m) : far p n ≤ far p m := by
  obtain ⟨s1, s2, s3, s4⟩ := step_le h
  unfold far
  rw [Int.mul_assoc, Int.mul_assoc]
  have := Int.mul_le_mul_of_nonneg_right hnm s4
  omega

theorem need_step {p : M.Ph} (h : PV p) {n : Int} (hn : 0 ≤ n) (hn2 : n < 65536) : needOf p n ≤ needOf p (n + 1) := by
  obtain ⟨⟨a1, a2, a3⟩, _⟩ := valid_iff.1 h
  have mono : ∀ {a b : Int}, a ≤ b → far p a / (p.den * 65536) ≤ far p b / (p.den * 65536) := fun hab => Int.ediv_le_ediv (by omega) (far_mono h hab)
  obtain ⟨q1, _, _⟩ := quot_ok h (n := n) (by omega) (by omega)
  unfold needOf
  rw [if_neg (by omega : ¬ n + 1 = 0), show n + 1 - 1 = n by omega]
  have m2 := mono (show n ≤ n + 1 by omega)
  simp only [mx_def]
  by_cases h0 : n = 0
  · rw [if_pos h0]; split <;> omega
  · rw [if_neg h0]
    have m1 := mono (show n - 1 ≤ n by omega)
    split <;> split <;> omega

theorem need_mono {p : M.Ph} (h : PV p) : ∀ (d : Nat) {n : Int}, 0 ≤ n → n + d ≤ 65536 → needOf p n ≤ needOf p (n + d)
  | 0, n, _, _ => by simp
  | d + 1, n, hn, hd => by
    have h1 := need_mono h d hn (by omega)
    have h2 := need_step h (n := n + d) (by omega) (by omega)
    have e : n + ((d + 1 : Nat) : Int) = n + d + 1 := by omega
    rw [e]
    omega

theorem srch_spec (f : Int → Bool) : ∀ (n : Nat) (i j : Int), i ≤ j → (j - i).toNat < n →
    i ≤ M.srch f n i j ∧ M.srch f n i j ≤ j ∧ (M.srch f n i j < j → f (M.srch f n i j) = true) ∧ (i < M.srch f n i j → f (M.srch f n i j - 1) = false)
  | 0, i, j, _, h => by omega
  | n + 1, i, j, h1, h2 => by
    unfold M.srch
    by_cases hij : i < j
    · rw [decide_eq_true hij, cond_true]
      cases hf : f ((i + j) / 2) with
      | true =>
        obtain ⟨a, b, c, d⟩ := srch_spec f n i ((i + j) / 2) (by omega) (by omega)
        refine ⟨a, by simp; omega, fun hlt => ?_, d⟩
        simp only [Bool.not_true, cond_false] at *
        by_cases he : M.srch f n i ((i + j) / 2) < (i + j) / 2
        · exact c he
        · have : M.srch f n i ((i + j) / 2) = (i + j) / 2 := by omega
          rw [this]; exact hf
      | false =>
        obtain ⟨a, b, c, d⟩ := srch_spec f n ((i + j) / 2 + 1) j (by omega) (by omega)
        simp only [Bool.not_false, cond_true] at *
        refine ⟨by omega, b, c, fun hlt => ?_⟩
        by_cases he : (i + j) / 2 + 1 < M.srch f n ((i + j) / 2 + 1) j
        · exact d he
        · have : M.srch f n ((i + j) / 2 + 1) j - 1 = (i + j) / 2 := by omega
          rw [this]; exact hf
    · rw [decide_eq_false hij, cond_false]
      exact ⟨by omega, h1, fun h => by omega, fun h => by omega⟩

theorem grch_spec (f : Int → Bool) : ∀ (n : Nat) (i j : Int), i ≤ j → (j - i).toNat < n →
    i ≤ M.grch f n i j ∧ M.grch f n i j ≤ j ∧ (i < M.grch f n i j → f (M.grch f n i j) = true) ∧ (M.grch f n i j < j → f (M.grch f n i j + 1) = false)
  | 0, i, j, _, h => by omega
  | n + 1, i, j, h1, h2 => by
    unfold M.grch
    by_cases hij : i < j
    · rw [decide_eq_true hij, cond_true]
      cases hf : f ((i + j + 1) / 2) with
      | true =>
        obtain ⟨a, b, c, d⟩ := grch_spec f n ((i + j + 1) / 2) j (by omega) (by omega)
        simp only [cond_true] at *
        refine ⟨by omega, b, fun hlt => ?_, d⟩
        by_cases he : (i + j + 1) / 2 < M.grch f n ((i + j + 1) / 2) j
        · exact c he
        · have : M.grch f n ((i + j + 1) / 2) j = (i + j + 1) / 2 := by omega
          rw [this]; exact hf
      | false =>
        obtain ⟨a, b, c, d⟩ := grch_spec f n i ((i + j + 1) / 2 - 1) (by omega) (by omega)
        simp only [cond_false] at *
        refine ⟨a, by omega, c, fun hlt => ?_⟩
        by_cases he : M.grch f n i ((i + j + 1) / 2 - 1) < (i + j + 1) / 2 - 1
        · exact d he
        · have : M.grch f n i ((i + j + 1) / 2 - 1) + 1 = (i + j + 1) / 2 := by omega
          rw [this]; exact hf
    · rw [decide_eq_false hij, cond_false]
      exact ⟨by omega, h1, fun h => by omega, fun h => by omega⟩

/-- how many frames can be made of lim frames -/
theorem count_spec {p : M.Ph} (h : PV p) (lim : Int) (N : Nat) (hN : 65536 < N) {r : Int} (hr : M.srch (over p.num p.den p.adj p.frac lim) N 0 65536 = r) :
    0 ≤ r ∧ r ≤ 65536 ∧ (r < 65536 → lim < needOf p (r + 1)) ∧ (0 < r → needOf p r ≤ lim) := by
  obtain ⟨a, b, c, d⟩ := srch_spec (over p.num p.den p.adj p.frac lim) N 0 65536 (by omega) (by omega)
  rw [hr] at a b c d
  refine ⟨a, b, fun hlt => ?_, fun hlt => ?_⟩
  · have := c hlt
    unfold over at this
    rw [need_ok h (by omega) (by omega)] at this
    simpa using this
  · have := d hlt
    unfold over at this
    rw [Int.sub_add_cancel, need_ok h (by omega) (by omega)] at this
    simpa using this

theorem same_aux {p : M.Ph} (hv : PV p) (lim : Int) (N : Nat) (hN : 65536 < N) : M.grch (under p.num p.den p.adj p.pos p.frac lim) N 0 65536 = M.srch (over p.num p.den p.adj p.frac lim) N 0 65536 := by
  generalize hr : M.srch (over p.num p.den p.adj p.frac lim) N 0 65536 = r
  obtain ⟨a, b, c, d⟩ := count_spec hv lim N hN hr
  obtain ⟨a', b', c', d'⟩ := grch_spec (under p.num p.den p.adj p.pos p.frac lim) N 0 65536 (by omega) (by omega)
  generalize M.grch (under p.num p.den p.adj p.pos p.frac lim) N 0 65536 = r' at *
  have hu : ∀ k, 0 ≤ k → k ≤ 65536 → under p.num p.den p.adj p.pos p.frac lim k = decide (needOf p k ≤ lim) := fun k h0 h1 => by
    unfold under
    rw [rNd_ok hv h0 h1]
  by_cases h1 : r < r'
  · have x1 := c (by omega)
    have x2 := c' (by omega)
    rw [hu r' (by omega) b'] at x2
    have x2' : needOf p r' ≤ lim := by simpa using x2
    have x3 := need_mono hv (r' - (r + 1)).toNat (n := r + 1) (by omega) (by omega)
    have e : r + 1 + ((r' - (r + 1)).toNat : Int) = r' := by omega
    rw [e] at x3
    omega
  · by_cases h2 : r' < r
    · have x1 := d (by omega)
      have x2 := d' (by omega)
      rw [hu (r' + 1) (by omega) (by omega)] at x2
      have x2' : ¬ needOf p (r' + 1) ≤ lim := by simpa using x2
      have x3 := need_mono hv (r - (r' + 1)).toNat (n := r' + 1) (by omega) (by omega)
      have e : r' + 1 + ((r - (r' + 1)).toNat : Int) = r := by omega
      rw [e] at x3
      omega
    · omega

theorem mkErr_valid {num den adj pos frac lim : Int} (he : (M.mkErr num den adj pos frac lim != 0) = false) : PV ⟨num, den, adj, pos, frac⟩ := by
  unfold PV
  cases hv : M.valid num den adj pos frac with
  | true => rfl
  | false => unfold M.mkErr at he; rw [hv] at he; cases he

theorem cnt_aux (N : Nat) (hN : 65536 < N) (num den adj pos frac lim : Int) :
    (bif M.mkErr num den adj pos frac lim != 0 then (0 : Int) else M.grch (under num den adj pos frac lim) N 0 65536) = (bif M.mkErr num den adj pos frac lim != 0 then (0 : Int) else M.srch (over num den adj frac lim) N 0 65536) := by
  cases he : M.mkErr num den adj pos frac lim != 0 with
  | true => simp only [cond_true]
  | false =>
    simp only [cond_false]
    exact same_aux (mkErr_valid he) lim N hN

theorem rCnt_same (num den adj pos frac lim : Int) : M.rCnt num den adj pos frac lim = M.mkCnt num den adj pos frac lim :=
  cnt_aux 65537 (by decide) num den adj pos frac lim
end Go.Proofs.Ytcpidomblalmpaa
