/- The models of samples: encoding by the reference. -/
import Derived.Test.YtpiolahnigdjmaaSmB
namespace Go.Proofs.Ytpiolahnigdjmaa
open Am
set_option maxRecDepth 100000
set_option linter.unusedVariables false
set_option linter.unusedSimpArgs false

theorem okK_cases {k sz : Int} (h : M.okK k sz = true) : (k = 1 ∧ sz = 1) ∨ (k = 2 ∧ sz = 2) ∨ (k = 3 ∧ sz = 2) ∨ (k = 4 ∧ sz = 3) ∨ (k = 5 ∧ sz = 3) ∨ (k = 6 ∧ sz = 4) ∨ (k = 7 ∧ sz = 4) := by
  unfold M.okK at h
  rw [Bool.and_eq_true] at h
  have h1 := of_decide_eq_true h.1
  have h2 := of_decide_eq_true h.2
  rcases kinds k with rfl | rfl | rfl | rfl | rfl | rfl | rfl | ⟨g1, g2, g3, g4, g5, g6, g7⟩
  · exact .inl ⟨rfl, h1.symm⟩
  · exact .inr (.inl ⟨rfl, h1.symm⟩)
  · exact .inr (.inr (.inl ⟨rfl, h1.symm⟩))
  · exact .inr (.inr (.inr (.inl ⟨rfl, h1.symm⟩)))
  · exact .inr (.inr (.inr (.inr (.inl ⟨rfl, h1.symm⟩))))
  · exact .inr (.inr (.inr (.inr (.inr (.inl ⟨rfl, h1.symm⟩)))))
  · exact .inr (.inr (.inr (.inr (.inr (.inr ⟨rfl, h1.symm⟩)))))
  · unfold M.fsz at h1; simp only [g1, g2, g3, g4, g5, g6, g7, cond_false] at h1; omega
theorem okK_okF {k sz : Int} (h : M.okK k sz = true) : M.okF sz (M.fbg k) = true := by
  rcases okK_cases h with ⟨rfl, rfl⟩ | ⟨rfl, rfl⟩ | ⟨rfl, rfl⟩ | ⟨rfl, rfl⟩ | ⟨rfl, rfl⟩ | ⟨rfl, rfl⟩ | ⟨rfl, rfl⟩ <;> rfl
def rS0 (e k sz : Int) (l : List Int) (n i : Int) : St := ⟨[(0, .int .i64 k), (4, .nilsl), (5, .int .i64 e), (6, .int .i64 sz), (7, .nilsl), (20, .vi .i32 l), (21, .int .i64 n), (22, .int .i64 i)], [], 0⟩
def rS1 (e k sz : Int) (l : List Int) (n i : Int) (a : List Int) : St := ⟨[(0, .int .i64 k), (4, .nilsl), (5, .int .i64 e), (6, .int .i64 sz), (7, .gsl 0 0), (20, .vi .i32 l), (21, .int .i64 n), (22, .int .i64 i)], [(0, .grow 1 0 (.ints .u8 a))], 1⟩

theorem r_step0 {R : Type} (k sz : Int) (hk : M.okK k sz = true) (l : List Int) (n i : Int) (K : Kont R) : execK (s11.inls 10 2) 13 0 (ntAt s11.P 13) noCall 10 none (bodyAt s11.P 13 0) (rS0 0 k sz l n i) (kRes 0 (keep 13 0) K) =
    (bif decide (i < n) then (bif decide (0 ≤ i) && decide (i < l.length) && true then (bif !M.smp (l.getD i.toNat 0) then K .ret (rS0 2 k sz l n i)
      else K .normal (rS1 0 k sz l n (M.w64 (i + 1)) (M.wr sz (M.fbg k) (M.num sz (l.getD i.toNat 0))))) else none) else K (.exit 0) (rS0 0 k sz l n i)) := by
  rcases okK_cases hk with ⟨rfl, rfl⟩ | ⟨rfl, rfl⟩ | ⟨rfl, rfl⟩ | ⟨rfl, rfl⟩ | ⟨rfl, rfl⟩ | ⟨rfl, rfl⟩ | ⟨rfl, rfl⟩
  · kernel_rfl
  · kernel_rfl
  · kernel_rfl
  · kernel_rfl
  · kernel_rfl
  · kernel_rfl
  · kernel_rfl

theorem r_step1 {R : Type} (k sz : Int) (hk : M.okK k sz = true) (l : List Int) (n i : Int) (a : List Int) (hc : M.okW a = true) (K : Kont R) : execK (s11.inls 10 2) 13 0 (ntAt s11.P 13) noCall 10 none (bodyAt s11.P 13 0) (rS1 0 k sz l n i a) (kRes 0 (keep 13 0) K) =
    (bif decide (i < n) then (bif decide (0 ≤ i) && decide (i < l.length) && true then (bif !M.smp (l.getD i.toNat 0) then K .ret (rS1 2 k sz l n i a)
      else K .normal (rS1 0 k sz l n (M.w64 (i + 1)) (a ++ M.wr sz (M.fbg k) (M.num sz (l.getD i.toNat 0))))) else none) else K (.exit 0) (rS1 0 k sz l n i a)) := by
  have h1 : Nat.ble (a.length + 1) 4294967296 = true := bleK hc (by omega)
  have h2 : ∀ x : Int, Nat.ble ((a ++ [x]).length + 1) 4294967296 = true := fun x => by rw [len_snoc]; exact bleK (k := 2) hc (by omega)
  have h3 : ∀ x y : Int, Nat.ble ((a ++ [x] ++ [y]).length + 1) 4294967296 = true := fun x y => by rw [len_snoc, len_snoc]; exact bleK (k := 3) hc (by omega)
  have h4 : ∀ x y z : Int, Nat.ble ((a ++ [x] ++ [y] ++ [z]).length + 1) 4294967296 = true := fun x y z => by rw [len_snoc, len_snoc, len_snoc]; exact bleK (k := 4) hc (by omega)
  rcases okK_cases hk with ⟨rfl, rfl⟩ | ⟨rfl, rfl⟩ | ⟨rfl, rfl⟩ | ⟨rfl, rfl⟩ | ⟨rfl, rfl⟩ | ⟨rfl, rfl⟩ | ⟨rfl, rfl⟩
  · refine (show execK (s11.inls 10 2) 13 0 (ntAt s11.P 13) noCall 10 none (bodyAt s11.P 13 0) (rS1 0 1 1 l n i a) (kRes 0 (keep 13 0) K) = (bif decide (i < n) then (bif decide (0 ≤ i) && decide (i < l.length) && true then (bif !M.smp (l.getD i.toNat 0) then K .ret (rS1 2 1 1 l n i a) else bif Nat.ble ((a).length + 1) 4294967296 && true then K .normal (rS1 0 1 1 l n (M.w64 (i + 1)) (a ++ [M.w8 ((M.num 1 (l.getD i.toNat 0)).fdiv 1)])) else none) else none) else K (.exit 0) (rS1 0 1 1 l n i a)) by kernel_rfl).trans ?_
    rw [show M.wr 1 (M.fbg 1) (M.num 1 (l.getD i.toNat 0)) = M.wr 1 false (M.num 1 (l.getD i.toNat 0)) from rfl, (wr_eq a _).1]
    simp only [h1, h2, h3, h4, Bool.and_true, cond_true]
  · refine (show execK (s11.inls 10 2) 13 0 (ntAt s11.P 13) noCall 10 none (bodyAt s11.P 13 0) (rS1 0 2 2 l n i a) (kRes 0 (keep 13 0) K) = (bif decide (i < n) then (bif decide (0 ≤ i) && decide (i < l.length) && true then (bif !M.smp (l.getD i.toNat 0) then K .ret (rS1 2 2 2 l n i a) else bif Nat.ble ((a).length + 1) 4294967296 && true then bif Nat.ble ((a ++ [M.w8 ((M.num 2 (l.getD i.toNat 0)).fdiv 1)]).length + 1) 4294967296 && true then K .normal (rS1 0 2 2 l n (M.w64 (i + 1)) (a ++ [M.w8 ((M.num 2 (l.getD i.toNat 0)).fdiv 1)] ++ [M.w8 ((M.num 2 (l.getD i.toNat 0)).fdiv 256)])) else none else none) else none) else K (.exit 0) (rS1 0 2 2 l n i a)) by kernel_rfl).trans ?_
    rw [show M.wr 2 (M.fbg 2) (M.num 2 (l.getD i.toNat 0)) = M.wr 2 false (M.num 2 (l.getD i.toNat 0)) from rfl, (wr_eq a _).2.1]
    simp only [h1, h2, h3, h4, Bool.and_true, cond_true]
  · refine (show execK (s11.inls 10 2) 13 0 (ntAt s11.P 13) noCall 10 none (bodyAt s11.P 13 0) (rS1 0 3 2 l n i a) (kRes 0 (keep 13 0) K) = (bif decide (i < n) then (bif decide (0 ≤ i) && decide (i < l.length) && true then (bif !M.smp (l.getD i.toNat 0) then K .ret (rS1 2 3 2 l n i a) else bif Nat.ble ((a).length + 1) 4294967296 && true then bif Nat.ble ((a ++ [M.w8 ((M.num 2 (l.getD i.toNat 0)).fdiv 256)]).length + 1) 4294967296 && true then K .normal (rS1 0 3 2 l n (M.w64 (i + 1)) (a ++ [M.w8 ((M.num 2 (l.getD i.toNat 0)).fdiv 256)] ++ [M.w8 ((M.num 2 (l.getD i.toNat 0)).fdiv 1)])) else none else none) else none) else K (.exit 0) (rS1 0 3 2 l n i a)) by kernel_rfl).trans ?_
    rw [show M.wr 2 (M.fbg 3) (M.num 2 (l.getD i.toNat 0)) = M.wr 2 true (M.num 2 (l.getD i.toNat 0)) from rfl, (wr_eq a _).2.2.1]
    simp only [h1, h2, h3, h4, Bool.and_true, cond_true]
  · refine (show execK (s11.inls 10 2) 13 0 (ntAt s11.P 13) noCall 10 none (bodyAt s11.P 13 0) (rS1 0 4 3 l n i a) (kRes 0 (keep 13 0) K) = (bif decide (i < n) then (bif decide (0 ≤ i) && decide (i < l.length) && true then (bif !M.smp (l.getD i.toNat 0) then K .ret (rS1 2 4 3 l n i a) else bif Nat.ble ((a).length + 1) 4294967296 && true then bif Nat.ble ((a ++ [M.w8 ((M.num 3 (l.getD i.toNat 0)).fdiv 1)]).length + 1) 4294967296 && true then bif Nat.ble ((a ++ [M.w8 ((M.num 3 (l.getD i.toNat 0)).fdiv 1)] ++ [M.w8 ((M.num 3 (l.getD i.toNat 0)).fdiv 256)]).length + 1) 4294967296 && true then K .normal (rS1 0 4 3 l n (M.w64 (i + 1)) (a ++ [M.w8 ((M.num 3 (l.getD i.toNat 0)).fdiv 1)] ++ [M.w8 ((M.num 3 (l.getD i.toNat 0)).fdiv 256)] ++ [M.w8 ((M.num 3 (l.getD i.toNat 0)).fdiv 65536)])) else none else none else none) else none) else K (.exit 0) (rS1 0 4 3 l n i a)) by kernel_rfl).trans ?_
    rw [show M.wr 3 (M.fbg 4) (M.num 3 (l.getD i.toNat 0)) = M.wr 3 false (M.num 3 (l.getD i.toNat 0)) from rfl, (wr_eq a _).2.2.2.1]
    simp only [h1, h2, h3, h4, Bool.and_true, cond_true]
  · refine (show execK (s11.inls 10 2) 13 0 (ntAt s11.P 13) noCall 10 none (bodyAt s11.P 13 0) (rS1 0 5 3 l n i a) (kRes 0 (keep 13 0) K) = (bif decide (i < n) then (bif decide (0 ≤ i) && decide (i < l.length) && true then (bif !M.smp (l.getD i.toNat 0) then K .ret (rS1 2 5 3 l n i a) else bif Nat.ble ((a).length + 1) 4294967296 && true then bif Nat.ble ((a ++ [M.w8 ((M.num 3 (l.getD i.toNat 0)).fdiv 65536)]).length + 1) 4294967296 && true then bif Nat.ble ((a ++ [M.w8 ((M.num 3 (l.getD i.toNat 0)).fdiv 65536)] ++ [M.w8 ((M.num 3 (l.getD i.toNat 0)).fdiv 256)]).length + 1) 4294967296 && true then K .normal (rS1 0 5 3 l n (M.w64 (i + 1)) (a ++ [M.w8 ((M.num 3 (l.getD i.toNat 0)).fdiv 65536)] ++ [M.w8 ((M.num 3 (l.getD i.toNat 0)).fdiv 256)] ++ [M.w8 ((M.num 3 (l.getD i.toNat 0)).fdiv 1)])) else none else none else none) else none) else K (.exit 0) (rS1 0 5 3 l n i a)) by kernel_rfl).trans ?_
    rw [show M.wr 3 (M.fbg 5) (M.num 3 (l.getD i.toNat 0)) = M.wr 3 true (M.num 3 (l.getD i.toNat 0)) from rfl, (wr_eq a _).2.2.2.2.1]
    simp only [h1, h2, h3, h4, Bool.and_true, cond_true]
  · refine (show execK (s11.inls 10 2) 13 0 (ntAt s11.P 13) noCall 10 none (bodyAt s11.P 13 0) (rS1 0 6 4 l n i a) (kRes 0 (keep 13 0) K) = (bif decide (i < n) then (bif decide (0 ≤ i) && decide (i < l.length) && true then (bif !M.smp (l.getD i.toNat 0) then K .ret (rS1 2 6 4 l n i a) else bif Nat.ble ((a).length + 1) 4294967296 && true then bif Nat.ble ((a ++ [M.w8 ((M.num 4 (l.getD i.toNat 0)).fdiv 1)]).length + 1) 4294967296 && true then bif Nat.ble ((a ++ [M.w8 ((M.num 4 (l.getD i.toNat 0)).fdiv 1)] ++ [M.w8 ((M.num 4 (l.getD i.toNat 0)).fdiv 256)]).length + 1) 4294967296 && true then bif Nat.ble ((a ++ [M.w8 ((M.num 4 (l.getD i.toNat 0)).fdiv 1)] ++ [M.w8 ((M.num 4 (l.getD i.toNat 0)).fdiv 256)] ++ [M.w8 ((M.num 4 (l.getD i.toNat 0)).fdiv 65536)]).length + 1) 4294967296 && true then K .normal (rS1 0 6 4 l n (M.w64 (i + 1)) (a ++ [M.w8 ((M.num 4 (l.getD i.toNat 0)).fdiv 1)] ++ [M.w8 ((M.num 4 (l.getD i.toNat 0)).fdiv 256)] ++ [M.w8 ((M.num 4 (l.getD i.toNat 0)).fdiv 65536)] ++ [M.w8 ((M.num 4 (l.getD i.toNat 0)).fdiv 16777216)])) else none else none else none else none) else none) else K (.exit 0) (rS1 0 6 4 l n i a)) by kernel_rfl).trans ?_
    rw [show M.wr 4 (M.fbg 6) (M.num 4 (l.getD i.toNat 0)) = M.wr 4 false (M.num 4 (l.getD i.toNat 0)) from rfl, (wr_eq a _).2.2.2.2.2.1]
    simp only [h1, h2, h3, h4, Bool.and_true, cond_true]
  · refine (show execK (s11.inls 10 2) 13 0 (ntAt s11.P 13) noCall 10 none (bodyAt s11.P 13 0) (rS1 0 7 4 l n i a) (kRes 0 (keep 13 0) K) = (bif decide (i < n) then (bif decide (0 ≤ i) && decide (i < l.length) && true then (bif !M.smp (l.getD i.toNat 0) then K .ret (rS1 2 7 4 l n i a) else bif Nat.ble ((a).length + 1) 4294967296 && true then bif Nat.ble ((a ++ [M.w8 ((M.num 4 (l.getD i.toNat 0)).fdiv 16777216)]).length + 1) 4294967296 && true then bif Nat.ble ((a ++ [M.w8 ((M.num 4 (l.getD i.toNat 0)).fdiv 16777216)] ++ [M.w8 ((M.num 4 (l.getD i.toNat 0)).fdiv 65536)]).length + 1) 4294967296 && true then bif Nat.ble ((a ++ [M.w8 ((M.num 4 (l.getD i.toNat 0)).fdiv 16777216)] ++ [M.w8 ((M.num 4 (l.getD i.toNat 0)).fdiv 65536)] ++ [M.w8 ((M.num 4 (l.getD i.toNat 0)).fdiv 256)]).length + 1) 4294967296 && true then K .normal (rS1 0 7 4 l n (M.w64 (i + 1)) (a ++ [M.w8 ((M.num 4 (l.getD i.toNat 0)).fdiv 16777216)] ++ [M.w8 ((M.num 4 (l.getD i.toNat 0)).fdiv 65536)] ++ [M.w8 ((M.num 4 (l.getD i.toNat 0)).fdiv 256)] ++ [M.w8 ((M.num 4 (l.getD i.toNat 0)).fdiv 1)])) else none else none else none else none) else none) else K (.exit 0) (rS1 0 7 4 l n i a)) by kernel_rfl).trans ?_
    rw [show M.wr 4 (M.fbg 7) (M.num 4 (l.getD i.toNat 0)) = M.wr 4 true (M.num 4 (l.getD i.toNat 0)) from rfl, (wr_eq a _).2.2.2.2.2.2]
    simp only [h1, h2, h3, h4, Bool.and_true, cond_true]

def rHead (e k sz : Int) (l : List Int) : Nat → St
  | 0 => rS0 e k sz l l.length 0
  | i + 1 => rS1 e k sz l l.length (i + 1 : Nat) ((l.take (i + 1)).flatMap (M.encS sz (M.fbg k)))
theorem r_loop (k sz : Int) (hk : M.okK k sz = true) (l : List Int) (hl : l.length ≤ 524288) (K : Kont (Ex × St)) :
    (allN l.length (fun i => M.smp (l.getD i 0)) = true → ∃ m, loopK 0 (keep 13 0) (execK (s11.inls 10 2) 13 0 (ntAt s11.P 13) noCall 10 none (bodyAt s11.P 13 0)) m (rHead 0 k sz l 0) K = K (.exit 0) (rHead 0 k sz l l.length)) ∧
    (allN l.length (fun i => M.smp (l.getD i 0)) = false → ∃ m, loopK 0 (keep 13 0) (execK (s11.inls 10 2) 13 0 (ntAt s11.P 13) noCall 10 none (bodyAt s11.P 13 0)) m (rHead 0 k sz l 0) K = K .ret (rHead 2 k sz l (badAt l.length fun i => M.smp (l.getD i 0)))) := by
  have hf := okK_okF hk
  refine all_rule l.length (fun i => M.smp (l.getD i 0)) (rHead 0 k sz l) 0 (fun i => (.ret, rHead 2 k sz l i)) (fun i => .inr rfl) (fun i hi hp K' => ?_) (fun i hi hp K' => ?_) (fun K' => ?_)
  · cases i with
    | zero =>
      show execK _ _ _ _ _ _ _ _ (rS0 0 k sz l l.length 0) _ = _
      rw [r_step0 k sz hk, decide_eq_true (by omega : (0 : Int) < l.length), show l.getD (0 : Int).toNat 0 = l.getD 0 0 from rfl, hp]
      have e := enc_snoc sz (M.fbg k) hi
      simp only [List.take_zero, List.flatMap_nil, List.nil_append] at e
      rw [← e]; rfl
    | succ i =>
      show execK _ _ _ _ _ _ _ _ (rS1 0 k sz l l.length (i + 1 : Nat) ((l.take (i + 1)).flatMap (M.encS sz (M.fbg k)))) _ = _
      rw [r_step1 k sz hk _ _ _ _ (enc_okW hf hl _), decide_eq_true (by omega : ((i + 1 : Nat) : Int) < l.length), decide_eq_true (by omega : (0 : Int) ≤ (i + 1 : Nat)), Int.toNat_natCast, hp, w64_in (n := ((i + 1 : Nat) : Int) + 1) (by omega) (by omega), ← enc_snoc sz (M.fbg k) hi]
      rfl
  · cases i with
    | zero =>
      show execK _ _ _ _ _ _ _ _ (rS0 0 k sz l l.length 0) _ = _
      rw [r_step0 k sz hk, decide_eq_true (by omega : (0 : Int) < l.length), show l.getD (0 : Int).toNat 0 = l.getD 0 0 from rfl, hp]
      rfl
    | succ i =>
      show execK _ _ _ _ _ _ _ _ (rS1 0 k sz l l.length (i + 1 : Nat) ((l.take (i + 1)).flatMap (M.encS sz (M.fbg k)))) _ = _
      rw [r_step1 k sz hk _ _ _ _ (enc_okW hf hl _), decide_eq_true (by omega : ((i + 1 : Nat) : Int) < l.length), decide_eq_true (by omega : (0 : Int) ≤ (i + 1 : Nat)), Int.toNat_natCast, hp]
      rfl
  · cases hl0 : l.length with
    | zero =>
      show execK _ _ _ _ _ _ _ _ (rS0 0 k sz l l.length 0) _ = K' _ (rS0 0 k sz l l.length 0)
      rw [r_step0 k sz hk, hl0]
      rfl
    | succ i =>
      show execK _ _ _ _ _ _ _ _ (rS1 0 k sz l l.length (i + 1 : Nat) ((l.take (i + 1)).flatMap (M.encS sz (M.fbg k)))) _ = K' _ (rS1 0 k sz l l.length (i + 1 : Nat) ((l.take (i + 1)).flatMap (M.encS sz (M.fbg k))))
      rw [r_step1 k sz hk _ _ _ _ (enc_okW hf hl _), decide_eq_false (by omega)]
      rfl
theorem rHead_pos (e k sz : Int) {l : List Int} {i : Nat} (h : 0 < i) : rHead e k sz l i = rS1 e k sz l l.length i ((l.take i).flatMap (M.encS sz (M.fbg k))) := by
  obtain ⟨j, rfl⟩ : ∃ j, i = j + 1 := ⟨i - 1, by omega⟩
  rfl

def l_rEnc : Nat → St → Option (List (Bool × Ex × St))
  | 0, ⟨[(0, .int .i64 k), (4, .nilsl), (5, .int .i64 0), (6, .int .i64 sz), (7, .nilsl), (20, .vi .i32 l), (21, .int .i64 n), (22, .int .i64 0)], [], 0⟩ => some [(M.okK k sz && M.okL l n && l.all M.smp && decide (0 < l.length), .exit 0, rS1 0 k sz l l.length l.length ((l.take l.length).flatMap (M.encS sz (M.fbg k)))), (M.okK k sz && M.okL l n && l.all M.smp, .exit 0, rS0 0 k sz l l.length 0), (M.okK k sz && M.okL l n && decide (0 < badAt l.length fun i => M.smp (l.getD i 0)), .ret, rS1 2 k sz l l.length (badAt l.length fun i => M.smp (l.getD i 0) : Nat) ((l.take (badAt l.length fun i => M.smp (l.getD i 0))).flatMap (M.encS sz (M.fbg k)))), (M.okK k sz && M.okL l n, .ret, rS0 2 k sz l l.length 0)]
  | _, _ => none
noncomputable def s12 : Cfg := s11.addLL 13 0 l_rEnc
theorem s12_ok : CfgOK s12 := addLL_ok s11_ok (by kernel_rfl) fun lo st alts ex st' h hp => by
  unfold l_rEnc at h
  split at h
  · simp only [Option.some.injEq] at h
    subst h
    rename_i k sz l n
    cases hf : M.okK k sz with
    | false => simp [hf, pickL] at hp
    | true =>
      cases hL : M.okL l n with
      | false => simp [hf, hL, pickL] at hp
      | true =>
        unfold M.okL at hL
        simp only [Bool.and_eq_true, decide_eq_true_eq] at hL
        obtain ⟨rfl, hl⟩ := hL
        obtain ⟨h1, h2⟩ := r_loop k sz hf l hl (fun ex st => some (ex, st))
        rw [allN_getD] at h1 h2
        refine loop_in (kp := keep 13 0) s11_ok 10 2 ?_
        have hL' : M.okL l l.length = true := by simp [M.okL, hl]
        cases ha : l.all M.smp with
        | true =>
          by_cases h0 : 0 < l.length
          · rw [rHead_pos 0 k sz h0] at h1
            simp only [hf, hL', ha, decide_eq_true h0, pickL, Bool.and_self, cond_true, Option.some.injEq, Prod.mk.injEq] at hp
            obtain ⟨rfl, rfl⟩ := hp
            exact h1 ha
          · have e0 : l.length = 0 := by omega
            simp only [hf, hL', ha, decide_eq_false h0, pickL, Bool.and_self, Bool.and_false, cond_true, cond_false, Option.some.injEq, Prod.mk.injEq] at hp
            obtain ⟨rfl, rfl⟩ := hp
            have hz : rHead 0 k sz l l.length = rS0 0 k sz l l.length 0 := by rw [List.length_eq_zero_iff.1 e0]; rfl
            rw [hz] at h1
            exact h1 ha
        | false =>
          by_cases h0 : 0 < badAt l.length fun i => M.smp (l.getD i 0)
          · rw [rHead_pos 2 k sz h0] at h2
            simp only [hf, hL', ha, decide_eq_true h0, pickL, Bool.and_self, Bool.and_false, Bool.false_and, cond_true, cond_false, Option.some.injEq, Prod.mk.injEq] at hp
            obtain ⟨rfl, rfl⟩ := hp
            exact h2 ha
          · have e0 : (badAt l.length fun i => M.smp (l.getD i 0)) = 0 := by omega
            simp only [hf, hL', ha, decide_eq_false h0, pickL, Bool.and_self, Bool.and_false, Bool.false_and, cond_true, cond_false, Option.some.injEq, Prod.mk.injEq] at hp
            obtain ⟨rfl, rfl⟩ := hp
            have := h2 ha
            rw [e0] at this
            exact this
  · cases h

theorem renc_end (k : Int) (l : List Int) (sz : Int) (hk : M.okK k sz = true) :
    Ev (bif decide ((l.length : Int) > 524288) then some (.tuple [.nilsl, .int .i64 3], [], 0) else bif M.okK k sz && M.okL l l.length && l.all M.smp && decide (0 < l.length) then some (.tuple [.vi .u8 ((l.take l.length).flatMap (M.encS sz (M.fbg k))), .int .i64 0], [], 0) else bif M.okK k sz && M.okL l l.length && l.all M.smp then some (.tuple [.nilsl, .int .i64 0], [], 0) else bif M.okK k sz && M.okL l l.length && decide (0 < badAt l.length fun i => M.smp (l.getD i 0)) then some (.tuple [.nilsl, .int .i64 2], [], 0) else bif M.okK k sz && M.okL l l.length then some (.tuple [.nilsl, .int .i64 2], [], 0) else none) (.tuple [.vi .u8 (M.encL k l), .int .i64 (M.encE k l)]) := by
  have hfz : M.fsz k = sz := by unfold M.okK at hk; rw [Bool.and_eq_true] at hk; exact of_decide_eq_true hk.1
  have hz : (M.fsz k == 0) = false := by rw [hfz]; rcases okK_cases hk with ⟨_, rfl⟩ | ⟨_, rfl⟩ | ⟨_, rfl⟩ | ⟨_, rfl⟩ | ⟨_, rfl⟩ | ⟨_, rfl⟩ | ⟨_, rfl⟩ <;> rfl
  by_cases hl : (l.length : Int) > 524288
  · have hE : M.encE k l = 3 := by unfold M.encE; rw [hz, decide_eq_true hl]; rfl
    have hLL : M.encL k l = [] := by unfold M.encL; rw [hE]; rfl
    rw [hE, hLL, decide_eq_true hl]
    exact ⟨_, [], 0, rfl, rfl, .tuple (.cons (.leaf (.nil _)) (.refl _))⟩
  · have hl' : l.length ≤ 524288 := by omega
    have hL : M.okL l l.length = true := by simp [M.okL, hl']
    rw [decide_eq_false hl, hk, hL]
    cases ha : l.all M.smp with
    | true =>
      have hE : M.encE k l = 0 := by unfold M.encE; rw [hz, decide_eq_false hl, ha]; rfl
      have hLL : M.encL k l = l.flatMap (M.encS sz (M.fbg k)) := by unfold M.encL; rw [hE, hfz]; rfl
      rw [hE, hLL, List.take_length]
      by_cases h0 : 0 < l.length
      · rw [decide_eq_true h0]
        exact ⟨_, [], 0, rfl, rfl, .refl _⟩
      · have : l = [] := List.length_eq_zero_iff.1 (by omega)
        subst this
        exact ⟨_, [], 0, rfl, rfl, .tuple (.cons (.leaf (.nil _)) (.refl _))⟩
    | false =>
      have hE : M.encE k l = 2 := by unfold M.encE; rw [hz, decide_eq_false hl, ha]; rfl
      have hLL : M.encL k l = [] := by unfold M.encL; rw [hE]; rfl
      rw [hE, hLL]
      cases decide (0 < badAt l.length fun i => M.smp (l.getD i 0)) <;> exact ⟨_, [], 0, rfl, rfl, .tuple (.cons (.leaf (.nil _)) (.refl _))⟩

theorem e_rEncode (k : Int) (l : List Int) : Ev (callB s12 noCall 0 13 [.int .i64 k, .vi .i32 l] [] 0) (.tuple [.vi .u8 (M.encL k l), .int .i64 (M.encE k l)]) := by
  rw [show callB s12 noCall 0 13 [.int .i64 k, .vi .i32 l] [] 0 = (bif k == 1 then (bif decide ((l.length : Int) > 524288) then some (.tuple [.nilsl, .int .i64 3], [], 0) else bif M.okK k 1 && M.okL l l.length && l.all M.smp && decide (0 < l.length) then some (.tuple [.vi .u8 ((l.take l.length).flatMap (M.encS 1 (M.fbg k))), .int .i64 0], [], 0) else bif M.okK k 1 && M.okL l l.length && l.all M.smp then some (.tuple [.nilsl, .int .i64 0], [], 0) else bif M.okK k 1 && M.okL l l.length && decide (0 < badAt l.length fun i => M.smp (l.getD i 0)) then some (.tuple [.nilsl, .int .i64 2], [], 0) else bif M.okK k 1 && M.okL l l.length then some (.tuple [.nilsl, .int .i64 2], [], 0) else none) else bif k == 2 then (bif decide ((l.length : Int) > 524288) then some (.tuple [.nilsl, .int .i64 3], [], 0) else bif M.okK k 2 && M.okL l l.length && l.all M.smp && decide (0 < l.length) then some (.tuple [.vi .u8 ((l.take l.length).flatMap (M.encS 2 (M.fbg k))), .int .i64 0], [], 0) else bif M.okK k 2 && M.okL l l.length && l.all M.smp then some (.tuple [.nilsl, .int .i64 0], [], 0) else bif M.okK k 2 && M.okL l l.length && decide (0 < badAt l.length fun i => M.smp (l.getD i 0)) then some (.tuple [.nilsl, .int .i64 2], [], 0) else bif M.okK k 2 && M.okL l l.length then some (.tuple [.nilsl, .int .i64 2], [], 0) else none) else bif k == 3 then (bif decide ((l.length : Int) > 524288) then some (.tuple [.nilsl, .int .i64 3], [], 0) else bif M.okK k 2 && M.okL l l.length && l.all M.smp && decide (0 < l.length) then some (.tuple [.vi .u8 ((l.take l.length).flatMap (M.encS 2 (M.fbg k))), .int .i64 0], [], 0) else bif M.okK k 2 && M.okL l l.length && l.all M.smp then some (.tuple [.nilsl, .int .i64 0], [], 0) else bif M.okK k 2 && M.okL l l.length && decide (0 < badAt l.length fun i => M.smp (l.getD i 0)) then some (.tuple [.nilsl, .int .i64 2], [], 0) else bif M.okK k 2 && M.okL l l.length then some (.tuple [.nilsl, .int .i64 2], [], 0) else none) else bif k == 4 then (bif decide ((l.length : Int) > 524288) then some (.tuple [.nilsl, .int .i64 3], [], 0) else bif M.okK k 3 && M.okL l l.length && l.all M.smp && decide (0 < l.length) then some (.tuple [.vi .u8 ((l.take l.length).flatMap (M.encS 3 (M.fbg k))), .int .i64 0], [], 0) else bif M.okK k 3 && M.okL l l.length && l.all M.smp then some (.tuple [.nilsl, .int .i64 0], [], 0) else bif M.okK k 3 && M.okL l l.length && decide (0 < badAt l.length fun i => M.smp (l.getD i 0)) then some (.tuple [.nilsl, .int .i64 2], [], 0) else bif M.okK k 3 && M.okL l l.length then some (.tuple [.nilsl, .int .i64 2], [], 0) else none) else bif k == 5 then (bif decide ((l.length : Int) > 524288) then some (.tuple [.nilsl, .int .i64 3], [], 0) else bif M.okK k 3 && M.okL l l.length && l.all M.smp && decide (0 < l.length) then some (.tuple [.vi .u8 ((l.take l.length).flatMap (M.encS 3 (M.fbg k))), .int .i64 0], [], 0) else bif M.okK k 3 && M.okL l l.length && l.all M.smp then some (.tuple [.nilsl, .int .i64 0], [], 0) else bif M.okK k 3 && M.okL l l.length && decide (0 < badAt l.length fun i => M.smp (l.getD i 0)) then some (.tuple [.nilsl, .int .i64 2], [], 0) else bif M.okK k 3 && M.okL l l.length then some (.tuple [.nilsl, .int .i64 2], [], 0) else none) else bif k == 6 then (bif decide ((l.length : Int) > 524288) then some (.tuple [.nilsl, .int .i64 3], [], 0) else bif M.okK k 4 && M.okL l l.length && l.all M.smp && decide (0 < l.length) then some (.tuple [.vi .u8 ((l.take l.length).flatMap (M.encS 4 (M.fbg k))), .int .i64 0], [], 0) else bif M.okK k 4 && M.okL l l.length && l.all M.smp then some (.tuple [.nilsl, .int .i64 0], [], 0) else bif M.okK k 4 && M.okL l l.length && decide (0 < badAt l.length fun i => M.smp (l.getD i 0)) then some (.tuple [.nilsl, .int .i64 2], [], 0) else bif M.okK k 4 && M.okL l l.length then some (.tuple [.nilsl, .int .i64 2], [], 0) else none) else bif k == 7 then (bif decide ((l.length : Int) > 524288) then some (.tuple [.nilsl, .int .i64 3], [], 0) else bif M.okK k 4 && M.okL l l.length && l.all M.smp && decide (0 < l.length) then some (.tuple [.vi .u8 ((l.take l.length).flatMap (M.encS 4 (M.fbg k))), .int .i64 0], [], 0) else bif M.okK k 4 && M.okL l l.length && l.all M.smp then some (.tuple [.nilsl, .int .i64 0], [], 0) else bif M.okK k 4 && M.okL l l.length && decide (0 < badAt l.length fun i => M.smp (l.getD i 0)) then some (.tuple [.nilsl, .int .i64 2], [], 0) else bif M.okK k 4 && M.okL l l.length then some (.tuple [.nilsl, .int .i64 2], [], 0) else none) else some (.tuple [.nilsl, .int .i64 1], [], 0)) by kernel_rfl]
  rcases kinds k with rfl | rfl | rfl | rfl | rfl | rfl | rfl | ⟨h1, h2, h3, h4, h5, h6, h7⟩
  · exact renc_end 1 l 1 rfl
  · exact renc_end 2 l 2 rfl
  · exact renc_end 3 l 2 rfl
  · exact renc_end 4 l 3 rfl
  · exact renc_end 5 l 3 rfl
  · exact renc_end 6 l 4 rfl
  · exact renc_end 7 l 4 rfl
  · simp only [h1, h2, h3, h4, h5, h6, h7, cond_false]
    have hE : M.encE k l = 1 := by unfold M.encE M.fsz; simp only [h1, h2, h3, h4, h5, h6, h7, cond_false]; rfl
    have hLL : M.encL k l = [] := by unfold M.encL; rw [hE]; rfl
    rw [hE, hLL]
    exact ⟨_, [], 0, rfl, rfl, .tuple (.cons (.leaf (.nil _)) (.refl _))⟩
def m_rEncode : List AV → Option (Bool × AV)
  | [.int .i64 k, l_] => (asVi .i32 l_).bind fun l => some (true, .tuple [.vi .u8 (M.encL k l), .int .i64 (M.encE k l)])
  | _ => none
noncomputable def s13 : Cfg := s12.add 13 m_rEncode
theorem s13_ok : CfgOK s13 := add_ok s12_ok fun xs v h => by
  unfold m_rEncode at h; split at h
  · obtain ⟨l, h_l, h⟩ := Option.bind_eq_some_iff.1 h
    simp only [Option.some.injEq, Prod.mk.injEq, true_and] at h; subst h
    exact Ev.pure s12_ok noCall_ok (e_rEncode _ _) (.cons (.leaf (.refl _)) (.cons (.leaf (asVi_le h_l)) (.refl _)))
  · cases h

end Go.Proofs.Ytpiolahnigdjmaa
