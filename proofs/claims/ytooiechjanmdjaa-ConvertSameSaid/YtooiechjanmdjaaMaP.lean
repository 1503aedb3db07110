/- Matrices, plain laws: what permutations and the identity do. -/
import Derived.Test.YtooiechjanmdjaaMaK
namespace Go.Proofs.Ytooiechjanmdjaa
open Am
set_option maxRecDepth 100000
set_option linter.unusedVariables false
set_option linter.unusedSimpArgs false

theorem flatI_len {f : Nat → List Int} {sz : Nat} : ∀ n, (∀ i, i < n → (f i).length = sz) → ((List.range n).flatMap f).length = n * sz
  | 0, _ => by simp
  | n + 1, h => by
    rw [List.range_succ, List.flatMap_append, List.length_append, flatI_len n fun i hi => h i (by omega), List.flatMap_singleton, h n (by omega), Nat.add_mul, Nat.one_mul]
theorem flatI_get {f : Nat → List Int} {sz : Nat} : ∀ n, (∀ i, i < n → (f i).length = sz) → ∀ i j, i < n → j < sz → ((List.range n).flatMap f).getD (i * sz + j) 0 = (f i).getD j 0
  | 0, _, _, _, h, _ => by omega
  | n + 1, h, i, j, hi, hj => by
    have hlen := flatI_len n fun i hi => h i (by omega)
    rw [List.range_succ, List.flatMap_append, List.flatMap_singleton, List.getD_eq_getElem?_getD, List.getD_eq_getElem?_getD]
    by_cases hlt : i < n
    · have : i * sz + sz ≤ n * sz := by rw [← Nat.succ_mul]; exact Nat.mul_le_mul_right _ hlt
      rw [List.getElem?_append_left (by omega)]
      have := flatI_get n (fun i hi => h i (by omega)) i j hlt hj
      rwa [List.getD_eq_getElem?_getD, List.getD_eq_getElem?_getD] at this
    · obtain rfl : i = n := by omega
      rw [List.getElem?_append_right (by omega), hlen, Nat.add_sub_cancel_left]
theorem map_getD {f : Nat → Int} {n i : Nat} (h : i < n) : ((List.range n).map f).getD i 0 = f i := by
  rw [List.getD_eq_getElem?_getD, List.getElem?_map, List.getElem?_range h]; rfl
theorem ext_getD {a b : List Int} (hl : a.length = b.length) (h : ∀ i, i < a.length → a.getD i 0 = b.getD i 0) : a = b := by
  refine List.ext_getElem hl fun i h1 h2 => ?_
  have := h i h1
  rwa [List.getD_eq_getElem?_getD, List.getD_eq_getElem?_getD, List.getElem?_eq_getElem h1, List.getElem?_eq_getElem h2] at this
/-- a place in a list of F rows of n -/
theorem split_at {F n k : Nat} (h : k < F * n) : k / n < F ∧ k % n < n ∧ k = k / n * n + k % n := by
  have hn : 0 < n := by
    rcases Nat.eq_zero_or_pos n with rfl | h'
    · simp at h
    · exact h'
  refine ⟨(Nat.div_lt_iff_lt_mul hn).2 h, Nat.mod_lt _ hn, ?_⟩
  have := Nat.div_add_mod k n
  rw [Nat.mul_comm] at this
  exact this.symm
theorem dotZ_zero {f : Nat → Int} : ∀ k, (∀ i, i < k → f i = 0) → M.dotZ k f = 0
  | 0, _ => rfl
  | k + 1, h => by
    show M.dotZ k f + f k = 0
    rw [dotZ_zero k fun i hi => h i (by omega), h k (by omega)]; rfl
theorem dotZ_pick {f : Nat → Int} {j : Nat} : ∀ k, j < k → (∀ i, i < k → i ≠ j → f i = 0) → M.dotZ k f = f j
  | 0, h, _ => by omega
  | k + 1, h, hf => by
    show M.dotZ k f + f k = f j
    by_cases hj : j < k
    · rw [dotZ_pick k hj fun i hi hn => hf i (by omega) hn, hf k (by omega) (by omega)]; omega
    · obtain rfl : j = k := by omega
      rw [dotZ_zero j fun i hi => hf i (by omega) (by omega)]; omega
theorem round_one (x : Int) : (32768 * x + 16384).fdiv 32768 = x := by
  rw [Int.fdiv_eq_ediv_of_nonneg _ (by omega)]; omega
theorem sat_id {x : Int} (h : M.smp x = true) : M.sat x = x := by
  obtain ⟨h1, h2⟩ := smp_iff h
  unfold M.sat
  rw [show (if x < 8388607 then x else 8388607) = x by split <;> omega]
  rw [show (bif true then if x > -8388608 then x else -8388608 else 0) = x by
    show (if x > -8388608 then x else -8388608) = x
    split <;> omega]
  exact w32_in (by omega) (by omega)
namespace M
/-- row r takes all of column s r and nothing else -/
def Perm (n m : Nat) (co : List Int) (s : Nat → Nat) : Prop := ∀ r, r < m → s r < n ∧ ∀ c, c < n → co.getD (r * n + c) 0 = if c = s r then 32768 else 0
end M
theorem row_at {n : Nat} {co : List Int} {r c : Nat} (hc : c < n) : (M.row n co r).getD c 0 = co.getD (r * n + c) 0 := by
  have := getD_row (n := (n : Int)) (co := co) (j := r) (i := c) (by omega)
  rw [this, ← Int.natCast_mul, ← Int.natCast_add, Int.toNat_natCast]
theorem cut_at {n : Nat} {l : List Int} {i c : Nat} (hc : c < n) : (M.cutN l ((i : Int) * n) ((i : Int) * n + n)).getD c 0 = l.getD (i * n + c) 0 := by
  have := getD_cut (n := (n : Int)) (p := (i : Int) * n) (l := l) (i := c) (Int.mul_nonneg (by omega) (by omega)) (by omega)
  rw [this, ← Int.natCast_mul, ← Int.natCast_add, Int.toNat_natCast]
theorem apF_len (n m : Int) (co l : List Int) (p : Int) (j : Nat) : (M.apF n m co l p j).length = j := apF_length ..
/-- a sample of a block that a matrix makes -/
theorem apD_at {n m : Nat} {co l : List Int} {F i r : Nat} (hi : i < F) (hr : r < m) :
    (M.apD n m co l F).getD (i * m + r) 0 = M.apV (M.row n co r) (M.cutN l ((i : Int) * n) ((i : Int) * n + n)) := by
  unfold M.apD
  rw [flatI_get F (fun i hi => by rw [apF_len]; rfl) i r hi (by exact hr)]
  unfold M.apF
  exact map_getD (f := fun r => M.apV (M.row n co r) (M.cutN l ((i : Int) * n) ((i : Int) * n + n))) hr
theorem apD_len {n m : Nat} {co l : List Int} {F : Nat} : (M.apD n m co l F).length = F * m := by
  rw [apD_length, Int.toNat_natCast]
theorem apV_pick {row x : List Int} {j : Nat} (hj : j < x.length) (h1 : row.getD j 0 = 32768) (h0 : ∀ i, i < x.length → i ≠ j → row.getD i 0 = 0) (hs : M.smp (x.getD j 0) = true) : M.apV row x = x.getD j 0 := by
  unfold M.apV
  rw [dotZ_pick (j := j) x.length hj fun i hi hn => by unfold M.pr; rw [h0 i hi hn, Int.zero_mul]]
  unfold M.pr
  rw [h1, round_one]
  exact sat_id hs
theorem apply_perm {n m : Nat} {co l : List Int} {s : Nat → Nat} {F i r : Nat} (h : M.Perm n m co s) (hl : l.length = F * n) (hs : l.all M.smp = true) (hi : i < F) (hr : r < m) :
    (M.apD n m co l F).getD (i * m + r) 0 = l.getD (i * n + s r) 0 := by
  obtain ⟨h1, h2⟩ := h r hr
  have hle : i * n + n ≤ F * n := by rw [← Nat.succ_mul]; exact Nat.mul_le_mul_right _ hi
  have hlen : (M.cutN l ((i : Int) * n) ((i : Int) * n + n)).length = n := by
    have := cut_len (l := l) (p := (i : Int) * n) (n := n) (by omega) (Int.mul_nonneg (by omega) (by omega)) (by rw [← Int.natCast_mul]; omega)
    omega
  rw [apD_at hi hr, apV_pick (j := s r) (by omega) (by rw [row_at h1, h2 _ h1, if_pos rfl]) (fun c hc hn => by
    rw [hlen] at hc
    rw [row_at hc, h2 c hc, if_neg hn]) (by rw [cut_at h1]; exact all_getD hs (by omega)), cut_at h1]
theorem idD_at {n r c : Nat} (h1 : 1 ≤ n) (h2 : n ≤ 8) (hr : r < n) (hc : c < n) : (M.idD n).getD (r * n + c) 0 = if c = r then 32768 else 0 := by
  have he : M.idE (n : Int) = 0 := by unfold M.idE; rw [decide_eq_true (by omega), decide_eq_true (by omega)]; rfl
  have hlt : r * n + c < n * n := by
    have : r * n + n ≤ n * n := by rw [← Nat.succ_mul]; exact Nat.mul_le_mul_right _ hr
    omega
  unfold M.idD
  rw [he]
  show ((List.range ((n : Int).toNat * (n : Int).toNat)).map _).getD _ 0 = _
  rw [map_getD (by simpa using hlt), Int.toNat_natCast, Nat.mul_comm r n, Nat.mul_add_div (by omega), Nat.div_eq_of_lt hc, Nat.mul_add_mod, Nat.mod_eq_of_lt hc, Nat.add_zero]
  by_cases h : c = r
  · subst h; rw [if_pos rfl, show Nat.beq c c = true from Nat.beq_refl c]; rfl
  · rw [if_neg h, show Nat.beq r c = false by
      cases hb : Nat.beq r c with
      | false => rfl
      | true => exact absurd (Nat.eq_of_beq_eq_true hb).symm h]; rfl
theorem idD_len {n : Nat} (h1 : 1 ≤ n) (h2 : n ≤ 8) : (M.idD n).length = n * n := by
  have he : M.idE (n : Int) = 0 := by unfold M.idE; rw [decide_eq_true (by omega), decide_eq_true (by omega)]; rfl
  unfold M.idD; rw [he]; simp
theorem idD_in {n : Nat} (h1 : 1 ≤ n) (h2 : n ≤ 8) : (M.idD n).all M.inC = true := by
  rw [List.all_eq_true]
  intro x hx
  unfold M.idD at hx
  cases he : M.idE (n : Int) == 0 with
  | false => rw [he] at hx; cases hx
  | true =>
    rw [he] at hx
    obtain ⟨i, _, rfl⟩ := List.mem_map.1 hx
    cases Nat.beq (i / (n : Int).toNat) (i % (n : Int).toNat) <;> decide
theorem idD_valid {n : Nat} (h1 : 1 ≤ n) (h2 : n ≤ 8) : M.mtxV n n (M.idD n) = true := by
  unfold M.mtxV
  rw [decide_eq_true (by omega), decide_eq_true (by omega), idD_len h1 h2, idD_in h1 h2, decide_eq_true (Int.natCast_mul n n)]; rfl
theorem idD_perm {n : Nat} (h1 : 1 ≤ n) (h2 : n ≤ 8) : M.Perm n n (M.idD n) id := fun r hr => ⟨hr, fun c hc => idD_at h1 h2 hr hc⟩
theorem apply_id {n : Nat} {l : List Int} {F : Nat} (h1 : 1 ≤ n) (h2 : n ≤ 8) (hl : l.length = F * n) (hs : l.all M.smp = true) : M.apD n n (M.idD n) l F = l := by
  refine ext_getD (by rw [apD_len, hl]) fun k hk => ?_
  rw [apD_len] at hk
  obtain ⟨a, b, c⟩ := split_at hk
  rw [c, apply_perm (idD_perm h1 h2) hl hs a b]; rfl
theorem blkD_smp : ∀ (k : Nat) {l : List Int}, M.byt l = true → (M.blkD k l).all M.smp = true
  | 0, l, _ => rfl
  | k + 1, l, h => by
    obtain ⟨h1, h2, h3⟩ := smp_ok h
    show (M.smpV l :: M.blkD k (M.smpL l)).all M.smp = true
    rw [List.all_cons, blkD_smp k h3, Bool.and_true]
    unfold M.smp
    rw [decide_eq_true h1, decide_eq_true h2]; rfl
theorem blkL_byt : ∀ (k : Nat) {l : List Int}, M.byt l = true → M.byt (M.blkL k l) = true
  | 0, l, h => h
  | k + 1, l, h => blkL_byt k (smp_ok h).2.2
theorem valid_of {n : Nat} {l : List Int} {F : Nat} (h1 : 1 ≤ n) (h2 : n ≤ 8) (hl : l.length = F * n) (hF : F ≤ 65536) (hs : l.all M.smp = true) : M.valid n l = true := by
  unfold M.valid
  rw [decide_eq_false (by omega : ¬ (n : Int) < 1), decide_eq_false (by omega : ¬ (n : Int) > 8), hl]
  rw [show (((F * n : Nat) : Int).tmod n != 0) = false by rw [← Int.ofNat_tmod, Nat.mul_mod_left]; rfl, ← Int.ofNat_tdiv, Nat.mul_div_cancel _ (by omega), w64_in (by omega) (by omega), decide_eq_false (by omega : ¬ (F : Int) > 65536), hs]
  rfl
end Go.Proofs.Ytooiechjanmdjaa
