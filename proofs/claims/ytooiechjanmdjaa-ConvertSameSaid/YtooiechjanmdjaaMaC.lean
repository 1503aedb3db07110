/- The models of matrices: blocks pass a matrix. -/
import Derived.Test.YtooiechjanmdjaaMaB
namespace Go.Proofs.Ytooiechjanmdjaa
open Am
set_option maxRecDepth 100000
set_option linter.unusedVariables false
set_option linter.unusedSimpArgs false

namespace M
def dotZ : Nat → (Nat → Int) → Int
  | 0, _ => 0
  | k + 1, f => dotZ k f + f k
def okDot (q : Int) (row x : List Int) : Bool := decide ((x.length : Int) = q) && decide ((row.length : Int) = q) && decide (q ≤ 8) && row.all inC && x.all smp
def pr (row x : List Int) (i : Nat) : Int := row.getD i 0 * x.getD i 0
def apV (row x : List Int) : Int := sat ((dotZ x.length (pr row x) + 16384).fdiv 32768)
def cutN (l : List Int) (p q : Int) : List Int := (l.drop (p.toNat * 1)).take ((q.toNat - p.toNat) * 1)
def apF (n m : Int) (co l : List Int) (p : Int) (j : Nat) : List Int := (List.range j).map fun r => apV (row n co r) (cutN l p (p + n))
def okApp (n m : Int) (co l : List Int) : Bool := okRw n m co && co.all inC && l.all smp && decide (l.length ≤ 524288)
def okRow (n m : Int) (rs : List (List Int)) (co l : List Int) (p : Int) : Bool := okApp n m co l && decide (rs = rowsL n m co) && decide (0 ≤ p) && decide (p + n ≤ l.length)
end M
theorem dotZ_bound {B : Int} {f : Nat → Int} : ∀ (k : Nat), (∀ i, i < k → -B ≤ f i ∧ f i ≤ B) → -(k * B) ≤ M.dotZ k f ∧ M.dotZ k f ≤ k * B
  | 0, _ => by simp [M.dotZ]
  | k + 1, h => by
    have h1 := dotZ_bound (B := B) k fun i hi => h i (by omega)
    have h2 := h k (by omega)
    have : ((k + 1 : Nat) : Int) * B = k * B + B := by rw [show ((k + 1 : Nat) : Int) = (k : Int) + 1 by omega, Int.add_mul, Int.one_mul]
    rw [this]
    unfold M.dotZ
    omega
theorem prod_bound {a b A B : Int} (h1 : -A ≤ a) (h2 : a ≤ A) (h3 : -B ≤ b) (h4 : b ≤ B) : -(A * B) ≤ a * b ∧ a * b ≤ A * B := by
  have h : (a * b).natAbs ≤ A.natAbs * B.natAbs := by rw [Int.natAbs_mul]; exact Nat.mul_le_mul (by omega) (by omega)
  have hA : ((A.natAbs * B.natAbs : Nat) : Int) = A * B := by rw [Int.natCast_mul, Int.natAbs_of_nonneg (by omega), Int.natAbs_of_nonneg (by omega)]
  rw [← hA]
  omega
theorem all_getD {p : Int → Bool} {l : List Int} (h : l.all p = true) {i : Nat} (hi : i < l.length) : p (l.getD i 0) = true := by
  rw [List.all_eq_true] at h
  refine h _ ?_
  rw [List.getD_eq_getElem?_getD, List.getElem?_eq_getElem hi]
  exact List.getElem_mem hi
theorem inC_iff {c : Int} (h : M.inC c = true) : -131072 ≤ c ∧ c ≤ 131072 := by
  unfold M.inC at h; simp at h; omega
theorem smp_iff {c : Int} (h : M.smp c = true) : -8388608 ≤ c ∧ c ≤ 8388607 := by
  unfold M.smp at h; simp at h; omega
theorem pr_bound {row x : List Int} (h1 : row.all M.inC = true) (h2 : x.all M.smp = true) {i : Nat} (hi : i < row.length) (hj : i < x.length) : -1099511627776 ≤ M.pr row x i ∧ M.pr row x i ≤ 1099511627776 := by
  obtain ⟨a1, a2⟩ := inC_iff (all_getD h1 hi)
  obtain ⟨b1, b2⟩ := smp_iff (all_getD h2 hj)
  exact prod_bound (A := 131072) (B := 8388608) a1 a2 (by omega) (by omega)
theorem okD_iff {q : Int} {row x : List Int} (h : M.okDot q row x = true) : (x.length : Int) = q ∧ (row.length : Int) = q ∧ q ≤ 8 ∧ row.all M.inC = true ∧ x.all M.smp = true := by
  unfold M.okDot at h
  simp only [Bool.and_eq_true, decide_eq_true_eq] at h
  exact ⟨h.1.1.1.1, h.1.1.1.2, h.1.1.2, h.1.2, h.2⟩
theorem dot_small {q : Int} {row x : List Int} (h : M.okDot q row x = true) (i : Nat) (hi : i ≤ x.length) : -8796093022208 ≤ M.dotZ i (M.pr row x) ∧ M.dotZ i (M.pr row x) ≤ 8796093022208 := by
  obtain ⟨h1, h2, h3, h4, h5⟩ := okD_iff h
  have := dotZ_bound (B := 1099511627776) (f := M.pr row x) i fun j hj => pr_bound h4 h5 (by omega) (by omega)
  omega
theorem dot_next {q : Int} {row x : List Int} (h : M.okDot q row x = true) (i : Nat) (hi : i < x.length) : M.w64 (M.dotZ i (M.pr row x) + M.w64 (row.getD i 0 * M.w64 (x.getD i 0))) = M.dotZ (i + 1) (M.pr row x) := by
  obtain ⟨h1, h2, h3, h4, h5⟩ := okD_iff h
  have b1 := dot_small h i (by omega)
  have b2 := pr_bound h4 h5 (i := i) (by omega) hi
  obtain ⟨s1, s2⟩ := smp_iff (all_getD h5 hi)
  rw [w64_in (n := x.getD i 0) (by omega) (by omega)]
  show M.w64 (_ + M.w64 (M.pr row x i)) = _
  rw [w64_in (n := M.pr row x i) (by omega) (by omega), w64_in (by omega) (by omega)]
  rfl

def A0 (n m mo : Int) (co : List Int) (c : Int) (l a : List Int) (rs : List (List Int)) (p : Int) : St := ⟨[(2, .ptr 0 0 3), (3, .ptr 1 0 2), (4, .ptr 2 0 2), (5, .int .i64 0), (6, .vr .i64 rs), (7, .ptr 3 0 2), (8, .int .i64 p)], [(3, .fix (.cells [.int .i64 mo, .nilsl])), (2, .fix (.cells [.int .i64 0, .nilsl])), (1, .fix (.cells [.int .i64 c, .vi .i32 l])), (0, .fix (.cells [.int .i64 n, .int .i64 m, .vi .i64 co]))], 4⟩
def A1 (n m mo : Int) (co : List Int) (c : Int) (l a : List Int) (rs : List (List Int)) (p : Int) : St := ⟨[(2, .ptr 0 0 3), (3, .ptr 1 0 2), (4, .ptr 2 0 2), (5, .int .i64 0), (6, .vr .i64 rs), (7, .ptr 3 0 2), (8, .int .i64 p)], [(4, .grow 1 0 (.ints .i32 a)), (3, .fix (.cells [.int .i64 mo, .gsl 4 0])), (2, .fix (.cells [.int .i64 0, .nilsl])), (1, .fix (.cells [.int .i64 c, .vi .i32 l])), (0, .fix (.cells [.int .i64 n, .int .i64 m, .vi .i64 co]))], 5⟩
def AR0 (n m mo : Int) (co : List Int) (c : Int) (l a : List Int) (rs : List (List Int)) (p : Int) (rt : List (List Int)) (k r : Int) : St := ⟨[(2, .ptr 0 0 3), (3, .ptr 1 0 2), (4, .ptr 2 0 2), (5, .int .i64 0), (6, .vr .i64 rs), (7, .ptr 3 0 2), (8, .int .i64 p), (43, .vr .i64 rt), (44, .int .i64 k), (45, .int .i64 r)], [(3, .fix (.cells [.int .i64 mo, .nilsl])), (2, .fix (.cells [.int .i64 0, .nilsl])), (1, .fix (.cells [.int .i64 c, .vi .i32 l])), (0, .fix (.cells [.int .i64 n, .int .i64 m, .vi .i64 co]))], 4⟩
def AR1 (n m mo : Int) (co : List Int) (c : Int) (l a : List Int) (rs : List (List Int)) (p : Int) (rt : List (List Int)) (k r : Int) : St := ⟨[(2, .ptr 0 0 3), (3, .ptr 1 0 2), (4, .ptr 2 0 2), (5, .int .i64 0), (6, .vr .i64 rs), (7, .ptr 3 0 2), (8, .int .i64 p), (43, .vr .i64 rt), (44, .int .i64 k), (45, .int .i64 r)], [(4, .grow 1 0 (.ints .i32 a)), (3, .fix (.cells [.int .i64 mo, .gsl 4 0])), (2, .fix (.cells [.int .i64 0, .nilsl])), (1, .fix (.cells [.int .i64 c, .vi .i32 l])), (0, .fix (.cells [.int .i64 n, .int .i64 m, .vi .i64 co]))], 5⟩
def AC0 (n m mo : Int) (co : List Int) (c : Int) (l a : List Int) (rs : List (List Int)) (p : Int) (row : List Int) (s : Int) (rt : List (List Int)) (k r : Int) (x : List Int) (q i : Int) : St := ⟨[(2, .ptr 0 0 3), (3, .ptr 1 0 2), (4, .ptr 2 0 2), (5, .int .i64 0), (6, .vr .i64 rs), (7, .ptr 3 0 2), (8, .int .i64 p), (10, .vi .i64 row), (11, .int .i64 s), (43, .vr .i64 rt), (44, .int .i64 k), (45, .int .i64 r), (56, .vi .i32 x), (57, .int .i64 q), (58, .int .i64 i)], [(3, .fix (.cells [.int .i64 mo, .nilsl])), (2, .fix (.cells [.int .i64 0, .nilsl])), (1, .fix (.cells [.int .i64 c, .vi .i32 l])), (0, .fix (.cells [.int .i64 n, .int .i64 m, .vi .i64 co]))], 4⟩
def AC1 (n m mo : Int) (co : List Int) (c : Int) (l a : List Int) (rs : List (List Int)) (p : Int) (row : List Int) (s : Int) (rt : List (List Int)) (k r : Int) (x : List Int) (q i : Int) : St := ⟨[(2, .ptr 0 0 3), (3, .ptr 1 0 2), (4, .ptr 2 0 2), (5, .int .i64 0), (6, .vr .i64 rs), (7, .ptr 3 0 2), (8, .int .i64 p), (10, .vi .i64 row), (11, .int .i64 s), (43, .vr .i64 rt), (44, .int .i64 k), (45, .int .i64 r), (56, .vi .i32 x), (57, .int .i64 q), (58, .int .i64 i)], [(4, .grow 1 0 (.ints .i32 a)), (3, .fix (.cells [.int .i64 mo, .gsl 4 0])), (2, .fix (.cells [.int .i64 0, .nilsl])), (1, .fix (.cells [.int .i64 c, .vi .i32 l])), (0, .fix (.cells [.int .i64 n, .int .i64 m, .vi .i64 co]))], 5⟩
def R0 (n m mo : Int) (co : List Int) (c : Int) (l a : List Int) (p : Int) : St := ⟨[(2, .ptr 0 0 3), (3, .ptr 1 0 2), (4, .ptr 2 0 2), (5, .int .i64 0), (6, .ptr 3 0 2), (7, .int .i64 p)], [(3, .fix (.cells [.int .i64 mo, .nilsl])), (2, .fix (.cells [.int .i64 0, .nilsl])), (1, .fix (.cells [.int .i64 c, .vi .i32 l])), (0, .fix (.cells [.int .i64 n, .int .i64 m, .vi .i64 co]))], 4⟩
def R1 (n m mo : Int) (co : List Int) (c : Int) (l a : List Int) (p : Int) : St := ⟨[(2, .ptr 0 0 3), (3, .ptr 1 0 2), (4, .ptr 2 0 2), (5, .int .i64 0), (6, .ptr 3 0 2), (7, .int .i64 p)], [(4, .grow 1 0 (.ints .i32 a)), (3, .fix (.cells [.int .i64 mo, .gsl 4 0])), (2, .fix (.cells [.int .i64 0, .nilsl])), (1, .fix (.cells [.int .i64 c, .vi .i32 l])), (0, .fix (.cells [.int .i64 n, .int .i64 m, .vi .i64 co]))], 5⟩
def RR0 (n m mo : Int) (co : List Int) (c : Int) (l a : List Int) (p r : Int) : St := ⟨[(2, .ptr 0 0 3), (3, .ptr 1 0 2), (4, .ptr 2 0 2), (5, .int .i64 0), (6, .ptr 3 0 2), (7, .int .i64 p), (8, .int .i64 r)], [(3, .fix (.cells [.int .i64 mo, .nilsl])), (2, .fix (.cells [.int .i64 0, .nilsl])), (1, .fix (.cells [.int .i64 c, .vi .i32 l])), (0, .fix (.cells [.int .i64 n, .int .i64 m, .vi .i64 co]))], 4⟩
def RR1 (n m mo : Int) (co : List Int) (c : Int) (l a : List Int) (p r : Int) : St := ⟨[(2, .ptr 0 0 3), (3, .ptr 1 0 2), (4, .ptr 2 0 2), (5, .int .i64 0), (6, .ptr 3 0 2), (7, .int .i64 p), (8, .int .i64 r)], [(4, .grow 1 0 (.ints .i32 a)), (3, .fix (.cells [.int .i64 mo, .gsl 4 0])), (2, .fix (.cells [.int .i64 0, .nilsl])), (1, .fix (.cells [.int .i64 c, .vi .i32 l])), (0, .fix (.cells [.int .i64 n, .int .i64 m, .vi .i64 co]))], 5⟩
def RC0 (n m mo : Int) (co : List Int) (c : Int) (l a : List Int) (p r s i : Int) : St := ⟨[(2, .ptr 0 0 3), (3, .ptr 1 0 2), (4, .ptr 2 0 2), (5, .int .i64 0), (6, .ptr 3 0 2), (7, .int .i64 p), (8, .int .i64 r), (9, .int .i64 s), (10, .int .i64 i)], [(3, .fix (.cells [.int .i64 mo, .nilsl])), (2, .fix (.cells [.int .i64 0, .nilsl])), (1, .fix (.cells [.int .i64 c, .vi .i32 l])), (0, .fix (.cells [.int .i64 n, .int .i64 m, .vi .i64 co]))], 4⟩
def RC1 (n m mo : Int) (co : List Int) (c : Int) (l a : List Int) (p r s i : Int) : St := ⟨[(2, .ptr 0 0 3), (3, .ptr 1 0 2), (4, .ptr 2 0 2), (5, .int .i64 0), (6, .ptr 3 0 2), (7, .int .i64 p), (8, .int .i64 r), (9, .int .i64 s), (10, .int .i64 i)], [(4, .grow 1 0 (.ints .i32 a)), (3, .fix (.cells [.int .i64 mo, .gsl 4 0])), (2, .fix (.cells [.int .i64 0, .nilsl])), (1, .fix (.cells [.int .i64 c, .vi .i32 l])), (0, .fix (.cells [.int .i64 n, .int .i64 m, .vi .i64 co]))], 5⟩
theorem AC0_step {R : Type} (n m mo : Int) (co : List Int) (c : Int) (l a : List Int) (rs : List (List Int)) (p : Int) (row : List Int) (s : Int) (rt : List (List Int)) (k r : Int) (x : List Int) (q i : Int) (K : Kont R) : execK b2 73 0 (ntAt b2.P 73) noCall 0 none (bodyAt b2.P 73 4) (AC0 n m mo co c l a rs p row s rt k r x q i) (kRes 0 (keep 73 4) K) = 
    (bif decide (i < q) then (bif decide (0 ≤ i) && decide (i < x.length) && true then (bif decide (0 ≤ i) && decide (i < row.length) && true then K .normal (AC0 n m mo co c l a rs p row (M.w64 (s + M.w64 (row.getD i.toNat 0 * M.w64 (x.getD i.toNat 0)))) rt k r x q (M.w64 (i + 1))) else none) else none) else K (.exit 4) (AC0 n m mo co c l a rs p row s rt k r x q i)) := by kernel_rfl
theorem AC1_step {R : Type} (n m mo : Int) (co : List Int) (c : Int) (l a : List Int) (rs : List (List Int)) (p : Int) (row : List Int) (s : Int) (rt : List (List Int)) (k r : Int) (x : List Int) (q i : Int) (K : Kont R) : execK b2 73 0 (ntAt b2.P 73) noCall 0 none (bodyAt b2.P 73 4) (AC1 n m mo co c l a rs p row s rt k r x q i) (kRes 0 (keep 73 4) K) = 
    (bif decide (i < q) then (bif decide (0 ≤ i) && decide (i < x.length) && true then (bif decide (0 ≤ i) && decide (i < row.length) && true then K .normal (AC1 n m mo co c l a rs p row (M.w64 (s + M.w64 (row.getD i.toNat 0 * M.w64 (x.getD i.toNat 0)))) rt k r x q (M.w64 (i + 1))) else none) else none) else K (.exit 4) (AC1 n m mo co c l a rs p row s rt k r x q i)) := by kernel_rfl
def l_AC : Nat → St → Option (List (Bool × Ex × St))
  | 0, ⟨[(2, .ptr 0 0 3), (3, .ptr 1 0 2), (4, .ptr 2 0 2), (5, .int .i64 0), (6, .vr .i64 rs), (7, .ptr 3 0 2), (8, .int .i64 p), (10, .vi .i64 row), (11, .int .i64 0), (43, .vr .i64 rt), (44, .int .i64 k), (45, .int .i64 r), (56, .vi .i32 x), (57, .int .i64 q), (58, .int .i64 0)], [(3, .fix (.cells [.int .i64 mo, .nilsl])), (2, .fix (.cells [.int .i64 0, .nilsl])), (1, .fix (.cells [.int .i64 c, .vi .i32 l])), (0, .fix (.cells [.int .i64 n, .int .i64 m, .vi .i64 co]))], 4⟩ => some [(M.okDot q row x, .exit 4, AC0 n m mo co c l [] rs p row (M.dotZ x.length (M.pr row x)) rt k r x q q)]
  | 0, ⟨[(2, .ptr 0 0 3), (3, .ptr 1 0 2), (4, .ptr 2 0 2), (5, .int .i64 0), (6, .vr .i64 rs), (7, .ptr 3 0 2), (8, .int .i64 p), (10, .vi .i64 row), (11, .int .i64 0), (43, .vr .i64 rt), (44, .int .i64 k), (45, .int .i64 r), (56, .vi .i32 x), (57, .int .i64 q), (58, .int .i64 0)], [(4, .grow 1 0 (.ints .i32 a)), (3, .fix (.cells [.int .i64 mo, .gsl 4 0])), (2, .fix (.cells [.int .i64 0, .nilsl])), (1, .fix (.cells [.int .i64 c, .vi .i32 l])), (0, .fix (.cells [.int .i64 n, .int .i64 m, .vi .i64 co]))], 5⟩ => some [(M.okDot q row x, .exit 4, AC1 n m mo co c l a rs p row (M.dotZ x.length (M.pr row x)) rt k r x q q)]
  | _, _ => none
noncomputable def c1 : Cfg := b2.addLL 73 4 l_AC
theorem c1_ok : CfgOK c1 := addLL_ok b2_ok (by kernel_rfl) fun lo st alts ex st' h hp => by
  unfold l_AC at h
  split at h
  · simp only [Option.some.injEq] at h
    subst h
    rename_i rs p row rt k r x q mo c l n m co
    cases hk : M.okDot q row x with
    | false => rw [hk] at hp; cases hp
    | true =>
      rw [hk] at hp
      cases hp
      obtain ⟨h1, h2, h3, h4, h5⟩ := okD_iff hk
      refine loop_known (m := 0) (kp := keep 73 4) b2_ok noCall_ok ?_
      have main := loop_rule (lo := 0) (kp := keep 73 4) (b := execK b2 73 0 (ntAt b2.P 73) noCall 0 none (bodyAt b2.P 73 4)) (K := fun ex st => some (ex, st)) (fun i => AC0 n m mo co c l [] rs p row (M.dotZ i (M.pr row x)) rt k r x q i) (fun i => i ≤ x.length) (fun i => x.length - i) (fun _ => (.exit 4, AC0 n m mo co c l [] rs p row (M.dotZ x.length (M.pr row x)) rt k r x q x.length)) (fun i hi => ?_) 0 (Nat.zero_le _)
      · rw [← h1]; rw [← h1] at main; exact main
      by_cases hlt : i < x.length
      · refine .inl ⟨i + 1, hlt, by omega, rfl, fun K' => ?_⟩
        rw [AC0_step, decide_eq_true (by omega : (i : Int) < q), decide_eq_true (by omega : (0 : Int) ≤ i), decide_eq_true (by omega : (i : Int) < x.length), decide_eq_true (by omega : (i : Int) < row.length), Int.toNat_natCast, dot_next hk i hlt, w64_in (n := (i : Int) + 1) (by omega) (by omega)]
        rfl
      · have : i = x.length := by omega
        subst this
        refine .inr ⟨⟨4, .inl rfl⟩, fun K' => ?_⟩
        rw [AC0_step, decide_eq_false (by omega : ¬ (x.length : Int) < q)]
        rfl
  · simp only [Option.some.injEq] at h
    subst h
    rename_i rs p row rt k r x q a mo c l n m co
    cases hk : M.okDot q row x with
    | false => rw [hk] at hp; cases hp
    | true =>
      rw [hk] at hp
      cases hp
      obtain ⟨h1, h2, h3, h4, h5⟩ := okD_iff hk
      refine loop_known (m := 0) (kp := keep 73 4) b2_ok noCall_ok ?_
      have main := loop_rule (lo := 0) (kp := keep 73 4) (b := execK b2 73 0 (ntAt b2.P 73) noCall 0 none (bodyAt b2.P 73 4)) (K := fun ex st => some (ex, st)) (fun i => AC1 n m mo co c l a rs p row (M.dotZ i (M.pr row x)) rt k r x q i) (fun i => i ≤ x.length) (fun i => x.length - i) (fun _ => (.exit 4, AC1 n m mo co c l a rs p row (M.dotZ x.length (M.pr row x)) rt k r x q x.length)) (fun i hi => ?_) 0 (Nat.zero_le _)
      · rw [← h1]; rw [← h1] at main; exact main
      by_cases hlt : i < x.length
      · refine .inl ⟨i + 1, hlt, by omega, rfl, fun K' => ?_⟩
        rw [AC1_step, decide_eq_true (by omega : (i : Int) < q), decide_eq_true (by omega : (0 : Int) ≤ i), decide_eq_true (by omega : (i : Int) < x.length), decide_eq_true (by omega : (i : Int) < row.length), Int.toNat_natCast, dot_next hk i hlt, w64_in (n := (i : Int) + 1) (by omega) (by omega)]
        rfl
      · have : i = x.length := by omega
        subst this
        refine .inr ⟨⟨4, .inl rfl⟩, fun K' => ?_⟩
        rw [AC1_step, decide_eq_false (by omega : ¬ (x.length : Int) < q)]
        rfl
  · cases h

theorem okApp_iff {n m : Int} {co l : List Int} (h : M.okApp n m co l = true) : 1 ≤ n ∧ n ≤ 8 ∧ 1 ≤ m ∧ m ≤ 8 ∧ (co.length : Int) = n * m ∧ co.all M.inC = true ∧ l.all M.smp = true ∧ l.length ≤ 524288 := by
  unfold M.okApp M.okRw at h
  simp only [Bool.and_eq_true, decide_eq_true_eq] at h
  exact ⟨h.1.1.1.1.1.1.1, h.1.1.1.1.1.1.2, h.1.1.1.1.1.2, h.1.1.1.1.2, h.1.1.1.2, h.1.1.2, h.1.2, h.2⟩
theorem okRow_iff {n m : Int} {rs : List (List Int)} {co l : List Int} {p : Int} (h : M.okRow n m rs co l p = true) : M.okApp n m co l = true ∧ rs = M.rowsL n m co ∧ 0 ≤ p ∧ p + n ≤ l.length := by
  unfold M.okRow at h
  simp only [Bool.and_eq_true, decide_eq_true_eq] at h
  exact ⟨h.1.1.1, h.1.1.2, h.1.2, h.2⟩
theorem all_sub {p : Int → Bool} {l l' : List Int} (h : l.all p = true) (hs : ∀ x, x ∈ l' → x ∈ l) : l'.all p = true := by
  rw [List.all_eq_true] at h ⊢
  exact fun x hx => h x (hs x hx)
theorem row_len {n : Int} {co : List Int} {j : Nat} (h0 : 0 ≤ n) (h : ((j + 1 : Nat) : Int) * n ≤ co.length) : ((M.row n co j).length : Int) = n := by
  unfold M.row
  obtain ⟨k, rfl⟩ := Int.eq_ofNat_of_zero_le h0
  have : (j + 1) * k ≤ co.length := by rw [← Int.natCast_mul] at h; omega
  rw [Nat.add_mul, Nat.one_mul] at this
  simp
  omega
theorem cut_len {l : List Int} {p n : Int} (h0 : 0 ≤ n) (h1 : 0 ≤ p) (h2 : p + n ≤ l.length) : ((M.cutN l p (p + n)).length : Int) = n := by
  unfold M.cutN
  simp
  omega
theorem ok_dot {n m : Int} {rs : List (List Int)} {co l : List Int} {p : Int} (h : M.okRow n m rs co l p = true) {j : Nat} (hj : (j : Int) < m) :
    M.okDot (M.cutN l p (p + n)).length (M.row n co j) (M.cutN l p (p + n)) = true := by
  obtain ⟨hA, rfl, p0, p1⟩ := okRow_iff h
  obtain ⟨n1, n2, m1, m2, hl, hc, hs, hz⟩ := okApp_iff hA
  have e1 := cut_len (n := n) (by omega) p0 p1
  have hm : ((j + 1 : Nat) : Int) * n ≤ m * n := Int.mul_le_mul_of_nonneg_right (by omega) (by omega)
  have e2 := row_len (n := n) (co := co) (j := j) (by omega) (by rw [hl, Int.mul_comm n m]; exact hm)
  unfold M.okDot
  rw [decide_eq_true rfl, decide_eq_true (by omega), decide_eq_true (by omega), all_sub (l' := M.row n co j) hc (fun x hx => List.mem_of_mem_drop (List.mem_of_mem_take hx)), all_sub (l' := M.cutN l p (p + n)) hs (fun x hx => List.mem_of_mem_drop (List.mem_of_mem_take hx))]
  rfl
theorem rowsL_getD {n m : Int} {co : List Int} {j : Nat} (hj : (j : Int) < m) : (M.rowsL n m co).getD j [] = M.row n co j := by
  unfold M.rowsL
  have : j < m.toNat := by omega
  simp [List.getD_eq_getElem?_getD, this]
theorem rowsL_length {n m : Int} {co : List Int} : (M.rowsL n m co).length = m.toNat := by simp [M.rowsL]
theorem apF_snoc (n m : Int) (co l : List Int) (p : Int) (j : Nat) : M.apF n m co l p (j + 1) = M.apF n m co l p j ++ [M.apV (M.row n co j) (M.cutN l p (p + n))] := by
  simp [M.apF, List.range_succ]
theorem apF_length (n m : Int) (co l : List Int) (p : Int) (j : Nat) : (M.apF n m co l p j).length = j := by simp [M.apF]

theorem AR0_step {R : Type} (n m mo : Int) (co : List Int) (c : Int) (l a : List Int) (rs : List (List Int)) (p : Int) (rt : List (List Int)) (k r : Int) (K : Kont R) : execK c1 73 0 (ntAt c1.P 73) noCall 0 none (bodyAt c1.P 73 2) (AR0 n m mo co c l a rs p rt k r) (kRes 0 (keep 73 2) K) = 
    (bif decide (r < k) then (bif decide (0 ≤ r) && decide (r < rt.length) && true then (bif decide (0 ≤ p) && decide (p ≤ M.w64 (p + n)) && decide (M.w64 (p + n) ≤ l.length) && true then (bif M.okDot (M.cutN l p (M.w64 (p + n))).length (rt.getD r.toNat []) (M.cutN l p (M.w64 (p + n))) then K .normal (AR1 n m mo co c l [M.sat ((M.w64 (M.dotZ (M.cutN l p (M.w64 (p + n))).length (M.pr (rt.getD r.toNat []) (M.cutN l p (M.w64 (p + n)))) + 16384)).fdiv 32768)] rs p rt k (M.w64 (r + 1))) else none) else none) else none) else K (.exit 2) (AR0 n m mo co c l a rs p rt k r)) := by kernel_rfl
theorem AR1_step {R : Type} (n m mo : Int) (co : List Int) (c : Int) (l a : List Int) (rs : List (List Int)) (p : Int) (rt : List (List Int)) (k r : Int) (K : Kont R) : execK c1 73 0 (ntAt c1.P 73) noCall 0 none (bodyAt c1.P 73 2) (AR1 n m mo co c l a rs p rt k r) (kRes 0 (keep 73 2) K) = 
    (bif decide (r < k) then (bif decide (0 ≤ r) && decide (r < rt.length) && true then (bif decide (0 ≤ p) && decide (p ≤ M.w64 (p + n)) && decide (M.w64 (p + n) ≤ l.length) && true then (bif M.okDot (M.cutN l p (M.w64 (p + n))).length (rt.getD r.toNat []) (M.cutN l p (M.w64 (p + n))) then (bif Nat.ble (a.length + 1) 4294967296 && true then K .normal (AR1 n m mo co c l (a ++ [M.sat ((M.w64 (M.dotZ (M.cutN l p (M.w64 (p + n))).length (M.pr (rt.getD r.toNat []) (M.cutN l p (M.w64 (p + n)))) + 16384)).fdiv 32768)]) rs p rt k (M.w64 (r + 1))) else none) else none) else none) else none) else K (.exit 2) (AR1 n m mo co c l a rs p rt k r)) := by kernel_rfl
def ARh (n m mo : Int) (co : List Int) (c : Int) (l : List Int) (rs : List (List Int)) (p : Int) (rt : List (List Int)) (k : Int) : Nat → St
  | 0 => AR0 n m mo co c l [] rs p rt k 0
  | i + 1 => AR1 n m mo co c l (M.apF n m co l p (i + 1)) rs p rt k (i + 1 : Nat)

def l_AR : Nat → St → Option (List (Bool × Ex × St))
  | 0, ⟨[(2, .ptr 0 0 3), (3, .ptr 1 0 2), (4, .ptr 2 0 2), (5, .int .i64 0), (6, .vr .i64 rs), (7, .ptr 3 0 2), (8, .int .i64 p), (43, .vr .i64 rt), (44, .int .i64 k), (45, .int .i64 0)], [(3, .fix (.cells [.int .i64 mo, .nilsl])), (2, .fix (.cells [.int .i64 0, .nilsl])), (1, .fix (.cells [.int .i64 c, .vi .i32 l])), (0, .fix (.cells [.int .i64 n, .int .i64 m, .vi .i64 co]))], 4⟩ => some [(M.okRow n m rt co l p && decide (k = m), .exit 2, AR1 n m mo co c l (M.apF n m co l p m.toNat) rs p rt k m)]
  | 0, ⟨[(2, .ptr 0 0 3), (3, .ptr 1 0 2), (4, .ptr 2 0 2), (5, .int .i64 0), (6, .vr .i64 rs), (7, .ptr 3 0 2), (8, .int .i64 p), (43, .vr .i64 rt), (44, .int .i64 k), (45, .int .i64 0)], [(4, .grow 1 0 (.ints .i32 a)), (3, .fix (.cells [.int .i64 mo, .gsl 4 0])), (2, .fix (.cells [.int .i64 0, .nilsl])), (1, .fix (.cells [.int .i64 c, .vi .i32 l])), (0, .fix (.cells [.int .i64 n, .int .i64 m, .vi .i64 co]))], 5⟩ => some [(M.okRow n m rt co l p && decide (k = m) && decide (a.length ≤ 4194304), .exit 2, AR1 n m mo co c l (a ++ M.apF n m co l p m.toNat) rs p rt k m)]
  | _, _ => none
noncomputable def c2 : Cfg := c1.addLL 73 2 l_AR
theorem c2_ok : CfgOK c2 := addLL_ok c1_ok (by kernel_rfl) fun lo st alts ex st' h hp => by
  unfold l_AR at h
  split at h
  · simp only [Option.some.injEq] at h
    subst h
    rename_i rs p rt k mo c l n m co
    cases hk : (M.okRow n m rt co l p && decide (k = m)) with
    | false => rw [hk] at hp; cases hp
    | true =>
      rw [hk] at hp
      cases hp
      simp only [Bool.and_eq_true, decide_eq_true_eq] at hk
      obtain ⟨hk, hkm0⟩ := hk
      obtain ⟨hA, hrt, p0, p1⟩ := okRow_iff hk
      obtain ⟨n1, n2, m1, m2, hl, hc, hs, hz⟩ := okApp_iff hA
      refine loop_known (m := 0) (kp := keep 73 2) c1_ok noCall_ok ?_
      have hkm : k = (m.toNat : Int) := by omega
      have stp : ∀ (j : Nat), (j : Int) < m → ∀ (a : List Int), Nat.ble (a.length + 1) 4294967296 = true → ∀ (R : Type) (K' : Kont R), (bif decide ((j : Int) < k) then (bif decide (0 ≤ (j : Int)) && decide ((j : Int) < rt.length) && true then (bif decide (0 ≤ p) && decide (p ≤ M.w64 (p + n)) && decide (M.w64 (p + n) ≤ l.length) && true then (bif M.okDot (M.cutN l p (M.w64 (p + n))).length (rt.getD (j : Int).toNat []) (M.cutN l p (M.w64 (p + n))) then (bif Nat.ble (a.length + 1) 4294967296 && true then K' .normal (AR1 n m mo co c l (a ++ [M.sat ((M.w64 (M.dotZ (M.cutN l p (M.w64 (p + n))).length (M.pr (rt.getD (j : Int).toNat []) (M.cutN l p (M.w64 (p + n)))) + 16384)).fdiv 32768)]) rs p rt k (M.w64 (j + 1))) else none) else none) else none) else none) else none) = K' .normal (AR1 n m mo co c l (a ++ [M.apV (M.row n co j) (M.cutN l p (p + n))]) rs p rt k (j + 1 : Nat)) := by
        intro j hj a ha R K'
        have hd := ok_dot hk hj
        have hb := dot_small hd (M.cutN l p (p + n)).length (Nat.le_refl _)
        rw [hrt, rowsL_length, Int.toNat_natCast, rowsL_getD hj, w64_in (n := p + n) (by omega) (by omega), w64_in (n := (j : Int) + 1) (by omega) (by omega), hd, ha, decide_eq_true (by omega), decide_eq_true (by omega), decide_eq_true (by omega), decide_eq_true p0, decide_eq_true (by omega), decide_eq_true p1, w64_in (n := _ + 16384) (by omega) (by omega)]
        rfl
      have main := loop_rule (lo := 0) (kp := keep 73 2) (b := execK c1 73 0 (ntAt c1.P 73) noCall 0 none (bodyAt c1.P 73 2)) (K := fun ex st => some (ex, st)) (fun i => ARh n m mo co c l rs p rt k i) (fun i => i ≤ m.toNat) (fun i => m.toNat - i) (fun _ => (.exit 2, AR1 n m mo co c l (M.apF n m co l p m.toNat) rs p rt k m.toNat)) (fun i hi => ?_) 0 (Nat.zero_le _)
      · rw [Int.toNat_of_nonneg (by omega)] at main; exact main
      by_cases hlt : i < m.toNat
      · refine .inl ⟨i + 1, hlt, by omega, rfl, fun K' => ?_⟩
        cases i with
        | zero =>
          show execK _ _ _ _ _ _ _ _ (AR0 n m mo co c l [] rs p rt k 0) _ = _
          rw [AR0_step]
          have hst := stp 0 (by omega) [] rfl _ K'
          have e0 : decide ((0 : Int) < k) = true := decide_eq_true (by omega)
          rw [show ((0 : Nat) : Int) = 0 from rfl, e0] at hst
          rw [e0]
          exact hst
        | succ i =>
          show execK _ _ _ _ _ _ _ _ (AR1 n m mo co c l (M.apF n m co l p (i + 1)) rs p rt k (i + 1 : Nat)) _ = _
          rw [AR1_step]
          have hst := stp (i + 1) (by omega) (M.apF n m co l p (i + 1)) (by rw [apF_length]; exact Nat.ble_eq_true_of_le (by omega)) _ K'
          rw [decide_eq_true (by omega : ((i + 1 : Nat) : Int) < k)] at hst ⊢
          rw [← apF_snoc] at hst
          exact hst
      · have : i = m.toNat := by omega
        subst this
        refine .inr ⟨⟨2, .inl rfl⟩, fun K' => ?_⟩
        obtain ⟨q, hq⟩ : ∃ q, m.toNat = q + 1 := ⟨m.toNat - 1, by omega⟩
        rw [hq]
        show execK _ _ _ _ _ _ _ _ (AR1 n m mo co c l (M.apF n m co l p (q + 1)) rs p rt k (q + 1 : Nat)) _ = _
        rw [AR1_step, decide_eq_false (by omega : ¬ ((q + 1 : Nat) : Int) < k)]
        rfl
  · simp only [Option.some.injEq] at h
    subst h
    rename_i rs p rt k a mo c l n m co
    cases hk : (M.okRow n m rt co l p && decide (k = m) && decide (a.length ≤ 4194304)) with
    | false => rw [hk] at hp; cases hp
    | true =>
      rw [hk] at hp
      cases hp
      simp only [Bool.and_eq_true, decide_eq_true_eq] at hk
      obtain ⟨⟨hk, hkm0⟩, hlen⟩ := hk
      obtain ⟨hA, hrt, p0, p1⟩ := okRow_iff hk
      obtain ⟨n1, n2, m1, m2, hl, hc, hs, hz⟩ := okApp_iff hA
      refine loop_known (m := 0) (kp := keep 73 2) c1_ok noCall_ok ?_
      have hkm : k = (m.toNat : Int) := by omega
      have stp : ∀ (j : Nat), (j : Int) < m → ∀ (a : List Int), Nat.ble (a.length + 1) 4294967296 = true → ∀ (R : Type) (K' : Kont R), (bif decide ((j : Int) < k) then (bif decide (0 ≤ (j : Int)) && decide ((j : Int) < rt.length) && true then (bif decide (0 ≤ p) && decide (p ≤ M.w64 (p + n)) && decide (M.w64 (p + n) ≤ l.length) && true then (bif M.okDot (M.cutN l p (M.w64 (p + n))).length (rt.getD (j : Int).toNat []) (M.cutN l p (M.w64 (p + n))) then (bif Nat.ble (a.length + 1) 4294967296 && true then K' .normal (AR1 n m mo co c l (a ++ [M.sat ((M.w64 (M.dotZ (M.cutN l p (M.w64 (p + n))).length (M.pr (rt.getD (j : Int).toNat []) (M.cutN l p (M.w64 (p + n)))) + 16384)).fdiv 32768)]) rs p rt k (M.w64 (j + 1))) else none) else none) else none) else none) else none) = K' .normal (AR1 n m mo co c l (a ++ [M.apV (M.row n co j) (M.cutN l p (p + n))]) rs p rt k (j + 1 : Nat)) := by
        intro j hj a ha R K'
        have hd := ok_dot hk hj
        have hb := dot_small hd (M.cutN l p (p + n)).length (Nat.le_refl _)
        rw [hrt, rowsL_length, Int.toNat_natCast, rowsL_getD hj, w64_in (n := p + n) (by omega) (by omega), w64_in (n := (j : Int) + 1) (by omega) (by omega), hd, ha, decide_eq_true (by omega), decide_eq_true (by omega), decide_eq_true (by omega), decide_eq_true p0, decide_eq_true (by omega), decide_eq_true p1, w64_in (n := _ + 16384) (by omega) (by omega)]
        rfl
      have main := loop_rule (lo := 0) (kp := keep 73 2) (b := execK c1 73 0 (ntAt c1.P 73) noCall 0 none (bodyAt c1.P 73 2)) (K := fun ex st => some (ex, st)) (fun i => AR1 n m mo co c l (a ++ M.apF n m co l p i) rs p rt k i) (fun i => i ≤ m.toNat) (fun i => m.toNat - i) (fun _ => (.exit 2, AR1 n m mo co c l (a ++ M.apF n m co l p m.toNat) rs p rt k m.toNat)) (fun i hi => ?_) 0 (Nat.zero_le _)
      · rw [Int.toNat_of_nonneg (by omega)] at main; simp only [show a ++ M.apF n m co l p 0 = a from List.append_nil a] at main; exact main
      by_cases hlt : i < m.toNat
      · refine .inl ⟨i + 1, hlt, by omega, rfl, fun K' => ?_⟩
        show execK _ _ _ _ _ _ _ _ (AR1 n m mo co c l (a ++ M.apF n m co l p i) rs p rt k i) _ = _
        rw [AR1_step]
        have hst := stp i (by omega) (a ++ M.apF n m co l p i) (by rw [List.length_append, apF_length]; exact Nat.ble_eq_true_of_le (by omega)) _ K'
        rw [decide_eq_true (by omega : (i : Int) < k)] at hst ⊢
        rw [List.append_assoc a (M.apF n m co l p i) [M.apV (M.row n co i) (M.cutN l p (p + n))], ← apF_snoc] at hst
        exact hst
      · have : i = m.toNat := by omega
        subst this
        refine .inr ⟨⟨2, .inl rfl⟩, fun K' => ?_⟩
        show execK _ _ _ _ _ _ _ _ (AR1 n m mo co c l (a ++ M.apF n m co l p m.toNat) rs p rt k m.toNat) _ = _
        rw [AR1_step, decide_eq_false (by omega : ¬ (m.toNat : Int) < k)]
        rfl
  · cases h

namespace M
def apD (n m : Int) (co l : List Int) (j : Nat) : List Int := (List.range j).flatMap fun i : Nat => apF n m co l (i * n) m.toNat
def okAll (n m : Int) (co l : List Int) : Bool := okApp n m co l && decide ((l.length : Int).tmod n = 0)
end M
theorem apD_snoc (n m : Int) (co l : List Int) (j : Nat) : M.apD n m co l (j + 1) = M.apD n m co l j ++ M.apF n m co l (j * n) m.toNat := by
  simp [M.apD, List.range_succ]
theorem apD_length (n m : Int) (co l : List Int) : ∀ j, (M.apD n m co l j).length = j * m.toNat
  | 0 => by simp [M.apD]
  | j + 1 => by rw [apD_snoc, List.length_append, apD_length n m co l j, apF_length, Nat.add_mul, Nat.one_mul]
theorem okAll_iff {n m : Int} {co l : List Int} (h : M.okAll n m co l = true) : M.okApp n m co l = true ∧ ∃ F : Nat, (l.length : Int) = F * n ∧ F = l.length / n.toNat := by
  unfold M.okAll at h
  simp only [Bool.and_eq_true, decide_eq_true_eq] at h
  obtain ⟨n1, n2, _⟩ := okApp_iff h.1
  refine ⟨h.1, l.length / n.toNat, ?_, rfl⟩
  obtain ⟨k, rfl⟩ := Int.eq_ofNat_of_zero_le (show 0 ≤ n by omega)
  have h2 : l.length % k = 0 := by
    have := h.2
    rw [← Int.ofNat_tmod] at this
    omega
  rw [Int.toNat_natCast, ← Int.natCast_mul, Nat.div_mul_cancel (Nat.dvd_of_mod_eq_zero h2)]
theorem frame_le {n : Int} {L i F : Nat} (n1 : 1 ≤ n) (hL : (L : Int) = F * n) (hi : i < F) : 0 ≤ (i : Int) * n ∧ (i : Int) * n < L ∧ (i : Int) * n + n ≤ L ∧ ((i + 1 : Nat) : Int) * n = i * n + n ∧ i < L := by
  have a0 : 0 ≤ (i : Int) * n := Int.mul_nonneg (by omega) (by omega)
  have e : ((i + 1 : Nat) : Int) * n = i * n + n := by rw [show ((i + 1 : Nat) : Int) = (i : Int) + 1 by omega, Int.add_mul, Int.one_mul]
  have a1 : ((i + 1 : Nat) : Int) * n ≤ F * n := Int.mul_le_mul_of_nonneg_right (by omega) (by omega)
  have a2 : (i : Int) * 1 ≤ i * n := Int.mul_le_mul_of_nonneg_left n1 (by omega)
  omega
theorem okRow_of {n m : Int} {co l : List Int} (h : M.okApp n m co l = true) {p : Int} (h0 : 0 ≤ p) (h1 : p + n ≤ l.length) : M.okRow n m (M.rowsL n m co) co l p = true := by
  unfold M.okRow
  rw [h, decide_eq_true rfl, decide_eq_true h0, decide_eq_true h1]
  rfl

theorem A0_step {R : Type} (n m mo : Int) (co : List Int) (c : Int) (l a : List Int) (rs : List (List Int)) (p : Int) (K : Kont R) : execK c2 73 0 (ntAt c2.P 73) noCall 0 none (bodyAt c2.P 73 0) (A0 n m mo co c l a rs p) (kRes 0 (keep 73 0) K) = 
    (bif decide (p < l.length) then (bif M.okRow n m rs co l p && decide ((rs.length : Int) = m) then K .normal (A1 n m mo co c l (M.apF n m co l p m.toNat) rs (M.w64 (p + n))) else none) else K (.exit 0) (A0 n m mo co c l a rs p)) := by kernel_rfl
theorem A1_step {R : Type} (n m mo : Int) (co : List Int) (c : Int) (l a : List Int) (rs : List (List Int)) (p : Int) (K : Kont R) : execK c2 73 0 (ntAt c2.P 73) noCall 0 none (bodyAt c2.P 73 0) (A1 n m mo co c l a rs p) (kRes 0 (keep 73 0) K) = 
    (bif decide (p < l.length) then (bif M.okRow n m rs co l p && decide ((rs.length : Int) = m) && decide (a.length ≤ 4194304) then K .normal (A1 n m mo co c l (a ++ M.apF n m co l p m.toNat) rs (M.w64 (p + n))) else none) else K (.exit 0) (A1 n m mo co c l a rs p)) := by kernel_rfl
def Ah (n m mo : Int) (co : List Int) (c : Int) (l : List Int) (rs : List (List Int)) : Nat → St
  | 0 => A0 n m mo co c l [] rs 0
  | i + 1 => A1 n m mo co c l (M.apD n m co l (i + 1)) rs ((i + 1 : Nat) * n)
theorem Ah_next {R : Type} {n m : Int} (mo : Int) {co l : List Int} (c : Int) (h : M.okApp n m co l = true) {F : Nat} (hL : (l.length : Int) = F * n) (i : Nat) (hi : i < F) (K' : Kont R) :
    execK c2 73 0 (ntAt c2.P 73) noCall 0 none (bodyAt c2.P 73 0) (Ah n m mo co c l (M.rowsL n m co) i) (kRes 0 (keep 73 0) K') = K' .normal (Ah n m mo co c l (M.rowsL n m co) (i + 1)) := by
  obtain ⟨n1, n2, m1, m2, hl, hc, hs, hz⟩ := okApp_iff h
  obtain ⟨f0, f1, f2, f3, f4⟩ := frame_le n1 hL hi
  have hr : ((M.rowsL n m co).length : Int) = m := by rw [rowsL_length]; omega
  have hk := okRow_of h f0 f2
  cases i with
  | zero =>
    show execK c2 73 0 (ntAt c2.P 73) noCall 0 none (bodyAt c2.P 73 0) (A0 n m mo co c l [] (M.rowsL n m co) 0) _ = _
    have e0 : ((0 : Nat) : Int) * n = 0 := by simp
    rw [e0] at hk f0 f1 f2 f3
    rw [A0_step, decide_eq_true (by omega : (0 : Int) < l.length), hk, hr, decide_eq_true rfl, w64_in (n := 0 + n) (by omega) (by omega)]
    show K' .normal (A1 n m mo co c l (M.apF n m co l 0 m.toNat) (M.rowsL n m co) (0 + n)) = K' .normal (A1 n m mo co c l (M.apD n m co l (0 + 1)) (M.rowsL n m co) ((0 + 1 : Nat) * n))
    rw [apD_snoc, e0, show M.apD n m co l 0 = [] from rfl, List.nil_append, f3]
  | succ i =>
    show execK c2 73 0 (ntAt c2.P 73) noCall 0 none (bodyAt c2.P 73 0) (A1 n m mo co c l (M.apD n m co l (i + 1)) (M.rowsL n m co) ((i + 1 : Nat) * n)) _ = _
    have hb : (M.apD n m co l (i + 1)).length ≤ 4194304 := by
      rw [apD_length]
      have := Nat.mul_le_mul (show i + 1 ≤ 524288 by omega) (show m.toNat ≤ 8 by omega)
      omega
    rw [A1_step, decide_eq_true f1, hk, hr, decide_eq_true rfl, decide_eq_true hb, w64_in (n := _ + n) (by omega) (by omega), ← apD_snoc, ← f3]
    rfl

def l_A : Nat → St → Option (List (Bool × Ex × St))
  | 0, ⟨[(2, .ptr 0 0 3), (3, .ptr 1 0 2), (4, .ptr 2 0 2), (5, .int .i64 0), (6, .vr .i64 rs), (7, .ptr 3 0 2), (8, .int .i64 0)], [(3, .fix (.cells [.int .i64 mo, .nilsl])), (2, .fix (.cells [.int .i64 0, .nilsl])), (1, .fix (.cells [.int .i64 c, .vi .i32 l])), (0, .fix (.cells [.int .i64 n, .int .i64 m, .vi .i64 co]))], 4⟩ => some [(M.okAll n m co l && decide (rs = M.rowsL n m co) && decide (l.length = 0), .exit 0, A0 n m mo co c l [] rs 0), (M.okAll n m co l && decide (rs = M.rowsL n m co) && decide (l.length ≠ 0), .exit 0, A1 n m mo co c l (M.apD n m co l (l.length / n.toNat)) rs l.length)]
  | _, _ => none
noncomputable def c3 : Cfg := c2.addLL 73 0 l_A
theorem c3_ok : CfgOK c3 := addLL_ok c2_ok (by kernel_rfl) fun lo st alts ex st' h hp => by
  unfold l_A at h
  split at h
  · simp only [Option.some.injEq] at h
    subst h
    rename_i rs mo c l n m co
    cases hk : (M.okAll n m co l && decide (rs = M.rowsL n m co)) with
    | false => rw [hk] at hp; cases hp
    | true =>
      rw [hk] at hp
      simp only [Bool.and_eq_true, decide_eq_true_eq] at hk
      obtain ⟨hk, rfl⟩ := hk
      obtain ⟨hA, F, hL, hF⟩ := okAll_iff hk
      obtain ⟨n1, n2, m1, m2, hl, hc, hs, hz⟩ := okApp_iff hA
      refine loop_known (m := 0) (kp := keep 73 0) c2_ok noCall_ok ?_
      have main := loop_rule (lo := 0) (kp := keep 73 0) (b := execK c2 73 0 (ntAt c2.P 73) noCall 0 none (bodyAt c2.P 73 0)) (K := fun ex st => some (ex, st)) (fun i => Ah n m mo co c l (M.rowsL n m co) i) (fun i => i ≤ F) (fun i => F - i) (fun _ => (.exit 0, Ah n m mo co c l (M.rowsL n m co) F)) (fun i hi => ?_) 0 (Nat.zero_le _)
      · rw [← hF] at hp
        by_cases h0 : l.length = 0
        · have : F = 0 := by
            rcases Nat.eq_zero_or_pos F with h | h
            · exact h
            · have := (frame_le n1 hL h).2.2.2.2
              omega
          subst this
          rw [decide_eq_true h0, decide_eq_false (by omega)] at hp
          cases hp
          exact main
        · rw [decide_eq_false h0, decide_eq_true h0] at hp
          cases hp
          cases F with
          | zero => exfalso; rw [show ((0 : Nat) : Int) * n = 0 by simp] at hL; omega
          | succ F =>
            rw [hL]
            exact main
      by_cases hlt : i < F
      · exact .inl ⟨i + 1, hlt, by omega, rfl, fun K' => Ah_next mo c hA hL i hlt K'⟩
      · have : i = F := by omega
        subst this
        refine .inr ⟨⟨0, .inl rfl⟩, fun K' => ?_⟩
        cases i with
        | zero =>
          show execK c2 73 0 (ntAt c2.P 73) noCall 0 none (bodyAt c2.P 73 0) (A0 n m mo co c l [] (M.rowsL n m co) 0) _ = _
          rw [A0_step, decide_eq_false (by rw [hL]; simp : ¬ (0 : Int) < l.length)]
          rfl
        | succ i =>
          show execK c2 73 0 (ntAt c2.P 73) noCall 0 none (bodyAt c2.P 73 0) (A1 n m mo co c l (M.apD n m co l (i + 1)) (M.rowsL n m co) ((i + 1 : Nat) * n)) _ = _
          rw [A1_step, decide_eq_false (by omega : ¬ ((i + 1 : Nat) : Int) * n < l.length)]
          rfl
  · cases h

namespace M
def apE (n m : Int) (co : List Int) (c : Int) (l : List Int) : Int := bif !mtxV n m co then 1 else bif !valid c l then 1 else bif c != n then 11 else 0
def apO (n m : Int) (co : List Int) (c : Int) (l : List Int) : Int := bif apE n m co c l == 0 then m else 0
def apR (n m : Int) (co : List Int) (c : Int) (l : List Int) : List Int := bif apE n m co c l == 0 then apD n m co l (l.length / n.toNat) else []
end M
theorem mtxV_ok {n m : Int} {co : List Int} (h : M.mtxV n m co = true) : M.okRw n m co = true ∧ co.all M.inC = true := by
  unfold M.mtxV at h
  unfold M.okRw
  rwa [Bool.and_eq_true] at h
theorem valid_ok {c : Int} {l : List Int} (hl : l.length < 4294967296) (h : M.valid c l = true) : 1 ≤ c ∧ c ≤ 8 ∧ (l.length : Int).tmod c = 0 ∧ l.length ≤ 524288 ∧ l.all M.smp = true := by
  unfold M.valid at h
  by_cases h1 : c < 1
  · rw [decide_eq_true h1] at h; cases h
  by_cases h2 : c > 8
  · rw [decide_eq_false h1, decide_eq_true h2] at h; cases h
  rw [decide_eq_false h1, decide_eq_false h2] at h
  obtain ⟨k, rfl⟩ := Int.eq_ofNat_of_zero_le (show 0 ≤ c by omega)
  cases h3 : ((l.length : Int).tmod k != 0) with
  | true => rw [h3] at h; cases h
  | false =>
    rw [h3] at h
    have h3' : (l.length : Int).tmod k = 0 := by simpa using h3
    by_cases h4 : M.w64 ((l.length : Int).tdiv k) > 65536
    · rw [decide_eq_true h4] at h; cases h
    rw [decide_eq_false h4] at h
    refine ⟨by omega, by omega, h3', ?_, h⟩
    rw [← Int.ofNat_tdiv] at h4
    rw [← Int.ofNat_tmod] at h3'
    have hd : l.length / k ≤ l.length := Nat.div_le_self _ _
    have hm : l.length / k * k = l.length := Nat.div_mul_cancel (Nat.dvd_of_mod_eq_zero (by omega))
    generalize l.length / k = q at h4 hd hm
    rw [w64_in (by omega) (by omega)] at h4
    have := Nat.mul_le_mul (show q ≤ 65536 by omega) (show k ≤ 8 by omega)
    omega
theorem okAll_of {n m : Int} {co : List Int} {l : List Int} (hl : l.length < 4294967296) (h : M.mtxV n m co = true) (hv : M.valid n l = true) : M.okAll n m co l = true := by
  obtain ⟨a1, a2⟩ := mtxV_ok h
  obtain ⟨b1, b2, b3, b4, b5⟩ := valid_ok hl hv
  unfold M.okAll M.okApp
  rw [a1, a2, b5, decide_eq_true b4, decide_eq_true b3]
  rfl

theorem e_Apply (n m : Int) (co : List Int) (c : Int) (l : List Int) (hc : (decide (co.length < 4294967296) && decide (l.length < 4294967296)) = true) : Ev (callB c3 noCall 0 73 [.agg [.int .i64 n, .int .i64 m, .vi .i64 co], .agg [.int .i64 c, .vi .i32 l]] [] 0) (.tuple [.agg [.int .i64 (M.apO n m co c l), .vi .i32 (M.apR n m co c l)], .int .i64 (M.apE n m co c l)]) := by
  rw [show callB c3 noCall 0 73 [.agg [.int .i64 n, .int .i64 m, .vi .i64 co], .agg [.int .i64 c, .vi .i32 l]] [] 0 = (bif decide (co.length < 4294967296) && true then (bif !!M.mtxV n m co then (bif decide (l.length < 4294967296) && true then (bif !M.valid c l then some (.tuple [.agg [.int .i64 0, .nilsl], .int .i64 1], [], 0) else bif c != n then some (.tuple [.agg [.int .i64 0, .nilsl], .int .i64 11], [], 0) else (bif M.okRw n m co && true then (bif M.okAll n m co l && decide (M.rowsL n m co = M.rowsL n m co) && decide (l.length = 0) then some (.tuple [.agg [.int .i64 m, .nilsl], .int .i64 0], [], 0) else bif M.okAll n m co l && decide (M.rowsL n m co = M.rowsL n m co) && decide (l.length ≠ 0) then some (.tuple [.agg [.int .i64 m, .vi .i32 (M.apD n m co l (l.length / n.toNat))], .int .i64 0], [], 0) else none) else none)) else none) else some (.tuple [.agg [.int .i64 0, .nilsl], .int .i64 1], [], 0)) else none) by kernel_rfl]
  rw [Bool.and_eq_true] at hc
  obtain ⟨hc1, hc2⟩ := hc
  rw [hc1, hc2]
  unfold M.apO M.apR M.apE
  cases hm : M.mtxV n m co with
  | false => exact ⟨_, [], 0, rfl, rfl, .tuple (.cons (.agg (.cons (.refl _) (.cons (.nil _) (.refl _)))) (.refl _))⟩
  | true =>
  cases hv : M.valid c l with
  | false => exact ⟨_, [], 0, rfl, rfl, .tuple (.cons (.agg (.cons (.refl _) (.cons (.nil _) (.refl _)))) (.refl _))⟩
  | true =>
  by_cases hcn : c = n
  · subst hcn
    have hA := okAll_of (of_decide_eq_true hc2) hm hv
    rw [(mtxV_ok hm).1, show (c != c) = false by simp, hA, decide_eq_true rfl]
    by_cases h0 : l.length = 0
    · rw [decide_eq_true h0]
      have : l = [] := List.length_eq_zero_iff.1 h0
      subst this
      have he : M.apD c m co [] (([] : List Int).length / c.toNat) = [] := by simp [M.apD]
      refine ⟨_, [], 0, rfl, rfl, ?_⟩
      show Le2 (.tuple [.agg [.int .i64 m, .nilsl], .int .i64 0]) (.tuple [.agg [.int .i64 m, .vi .i32 (M.apD c m co [] (([] : List Int).length / c.toNat))], .int .i64 0])
      rw [he]
      exact .tuple (.cons (.agg (.cons (.refl _) (.cons (.nil _) (.refl _)))) (.refl _))
    · rw [decide_eq_false h0, decide_eq_true h0]
      exact ⟨_, [], 0, rfl, rfl, .refl _⟩
  · rw [show (c != n) = true by simpa using hcn]
    exact ⟨_, [], 0, rfl, rfl, .tuple (.cons (.agg (.cons (.refl _) (.cons (.nil _) (.refl _)))) (.refl _))⟩
def m_Apply : List AV → Option (Bool × AV)
  | [.agg [.int .i64 n, .int .i64 m, co_], .agg [.int .i64 c, l_]] => (asVi .i64 co_).bind fun co => (asVi .i32 l_).bind fun l => some ((decide (co.length < 4294967296) && decide (l.length < 4294967296)), .tuple [.agg [.int .i64 (M.apO n m co c l), .vi .i32 (M.apR n m co c l)], .int .i64 (M.apE n m co c l)])
  | _ => none
noncomputable def c4 : Cfg := c3.add 73 m_Apply
theorem c4_ok : CfgOK c4 := add_ok c3_ok fun xs v h => by
  unfold m_Apply at h; split at h
  · obtain ⟨co, h_co, h⟩ := Option.bind_eq_some_iff.1 h
    obtain ⟨l, h_l, h⟩ := Option.bind_eq_some_iff.1 h
    simp only [Option.some.injEq, Prod.mk.injEq] at h; obtain ⟨h1, rfl⟩ := h
    exact Ev.pure c3_ok noCall_ok (e_Apply _ _ _ _ _ h1) (.cons (.agg (.cons (.refl _) (.cons (.refl _) (.cons (asVi_le h_co) (.refl _))))) (.cons (.agg (.cons (.refl _) (.cons (asVi_le h_l) (.refl _)))) (.refl _)))
  · cases h

end Go.Proofs.Ytooiechjanmdjaa
