/- Matrices: the loops of the law about columns. -/
import Derived.Test.YtplcpdjabjjfiaaMaR
import Derived.Test.YtplcpdjabjjfiaaMaT
namespace Go.Proofs.Ytplcpdjabjjfiaa
open Am
set_option maxRecDepth 100000
set_option linter.unusedVariables false
set_option linter.unusedSimpArgs false
set_option maxHeartbeats 4000000

namespace M
def colv (a b : List Int) (c : Nat) (r : Nat) : Int := (dflC a b a.length).getD (r * a.length + c) 0
def okCI (a b b2 L : List Int) (n y c p : Int) : Bool := mapV a && mapV b && decide (b2 = b) && decide (n = a.length) && decide (L = dflC a b a.length) && decide (y = b.length) && decide (0 ≤ c) && decide (c < a.length) && decide (p = a.getD c.toNat 0)
end M
theorem okCI_iff {a b b2 L : List Int} {n y c p : Int} (h : M.okCI a b b2 L n y c p = true) : M.mapV a = true ∧ M.mapV b = true ∧ b2 = b ∧ n = a.length ∧ L = M.dflC a b a.length ∧ y = b.length ∧ 0 ≤ c ∧ c < a.length ∧ p = a.getD c.toNat 0 := by
  unfold M.okCI at h; simp only [Bool.and_eq_true, decide_eq_true_eq] at h
  obtain ⟨⟨⟨⟨⟨⟨⟨⟨h1, h2⟩, h3⟩, h4⟩, h5⟩, h6⟩, h7⟩, h8⟩, h9⟩ := h
  exact ⟨h1, h2, h3, h4, h5, h6, h7, h8, h9⟩
def ciSt (a b s t a2 b2 L : List Int) (n m x i y c p : Int) (f g j : Int) : St := ⟨[(0, .vi .i64 a), (1, .vi .i64 b), (2, .vi .u8 s), (3, .vi .u8 t), (8, .bool false), (9, .ptr 0 0 3), (10, .int .i64 0), (11, .int .i64 c), (12, .int .i64 p), (13, .int .i64 f), (14, .int .i64 g), (79, .vi .i64 a2), (80, .int .i64 x), (81, .int .i64 i), (86, .vi .i64 b2), (87, .int .i64 y), (88, .int .i64 j)], [(0, .fix (.cells [.int .i64 n, .int .i64 m, .vi .i64 L]))], 1⟩
theorem ci_step {R : Type} (a b s t a2 b2 L : List Int) (n m x i y c p : Int) (f g j : Int) (K : Kont R) : execK o2 6 0 (ntAt o2.P 6) noCall 0 none (bodyAt o2.P 6 2) (ciSt a b s t a2 b2 L n m x i y c p f g j) (kRes 0 (keep 6 2) K) =
    (bif decide (j < y) then (bif M.icR n c L.length j then (bif L.getD (M.w64 (M.w64 (j * n) + c)).toNat 0 == 32768 then (bif decide (0 ≤ j) && decide (j < b.length) && true then (bif b.getD j.toNat 0 != p then K .ret (ciSt a b s t a2 b2 L n m x i y c p (M.w64 (f + 1)) g j) else K .normal (ciSt a b s t a2 b2 L n m x i y c p (M.w64 (f + 1)) g (M.w64 (j + 1)))) else none)
      else bif L.getD (M.w64 (M.w64 (j * n) + c)).toNat 0 == 23170 then K .normal (ciSt a b s t a2 b2 L n m x i y c p f (M.w64 (g + 1)) (M.w64 (j + 1))) else bif L.getD (M.w64 (M.w64 (j * n) + c)).toNat 0 == 0 then K .normal (ciSt a b s t a2 b2 L n m x i y c p f g (M.w64 (j + 1))) else K .ret (ciSt a b s t a2 b2 L n m x i y c p f g j)) else none) else K (.exit 2) (ciSt a b s t a2 b2 L n m x i y c p f g j)) := by kernel_rfl
theorem colv_ok {a b : List Int} (ha : M.mapV a = true) (hb : M.mapV b = true) {c : Nat} (hc : c < a.length) : M.colOK b (a.getD c 0) (M.colv a b c) = true := col_of fun r hr => dfl_at hc hr
theorem colOK_iff {b : List Int} {p : Int} {v : Nat → Int} (h : M.colOK b p v = true) : (∀ r, r < b.length → (v r = 32768 ∧ b.getD r 0 = p) ∨ v r = 23170 ∨ v r = 0) ∧ (M.has b p != (M.cntE v 32768 b.length == 1)) = false ∧ (M.has b p && M.cntE v 23170 b.length != 0) = false ∧ decide (M.cntE v 23170 b.length > 2) = false ∧ (M.cntE v 23170 b.length == 2 && p != 3) = false := by
  unfold M.colOK at h
  simp only [Bool.and_eq_true, allN_iff, Bool.not_eq_true', Bool.or_eq_true, beq_iff_eq] at h
  obtain ⟨h1, h2⟩ := h
  refine ⟨fun r hr => ?_, h2.1.1.1, h2.1.1.2, h2.1.2, h2.2⟩
  rcases h1 r hr with (h | h) | h
  · exact .inl h
  · exact .inr (.inl h)
  · exact .inr (.inr h)
theorem cnt_bound {v : Nat → Int} {x : Int} : ∀ r, 0 ≤ M.cntE v x r ∧ M.cntE v x r ≤ r
  | 0 => ⟨Int.le_refl _, Int.le_refl _⟩
  | r + 1 => by
    have := cnt_bound (v := v) (x := x) r
    show 0 ≤ M.cntE v x r + (if v r = x then 1 else 0) ∧ M.cntE v x r + (if v r = x then 1 else 0) ≤ ((r + 1 : Nat) : Int)
    split <;> omega

theorem ci_next {R : Type} {a b : List Int} (s t a2 : List Int) (m x i : Int) (ha : M.mapV a = true) (hb : M.mapV b = true) {C : Nat} (hC : C < a.length) (j : Nat) (hj : j < b.length) (K' : Kont R) :
    execK o2 6 0 (ntAt o2.P 6) noCall 0 none (bodyAt o2.P 6 2) (ciSt a b s t a2 b (M.dflC a b a.length) a.length m x i b.length (C : Nat) (a.getD C 0) (M.cntE (M.colv a b C) 32768 j) (M.cntE (M.colv a b C) 23170 j) (j : Nat)) (kRes 0 (keep 6 2) K') = K' .normal (ciSt a b s t a2 b (M.dflC a b a.length) a.length m x i b.length (C : Nat) (a.getD C 0) (M.cntE (M.colv a b C) 32768 (j + 1)) (M.cntE (M.colv a b C) 23170 (j + 1)) (j + 1 : Nat)) := by
  obtain ⟨a1, a2', _⟩ := mapV_iff ha
  obtain ⟨b1, b2', _⟩ := mapV_iff hb
  obtain ⟨q1, q2⟩ := put_at (lb := b.length) hC a2' b2' (r := (j : Int)) (by omega) (by omega)
  have e : (M.w64 (M.w64 ((j : Int) * (a.length : Int)) + (C : Int))).toNat = j * a.length + C := by
    unfold M.pR at q2; rw [Int.toNat_natCast] at q2; omega
  have hv : (M.dflC a b a.length).getD (j * a.length + C) 0 = M.colv a b C j := rfl
  have c1 := cnt_bound (v := M.colv a b C) (x := 32768) j
  have c2 := cnt_bound (v := M.colv a b C) (x := 23170) j
  have d1 : M.cntE (M.colv a b C) 32768 (j + 1) = M.cntE (M.colv a b C) 32768 j + (if M.colv a b C j = 32768 then 1 else 0) := rfl
  have d2 : M.cntE (M.colv a b C) 23170 (j + 1) = M.cntE (M.colv a b C) 23170 j + (if M.colv a b C j = 23170 then 1 else 0) := rfl
  rw [ci_step, dflC_length, q1, e, hv, d1, d2, w64_in (n := (j : Int) + 1) (by omega) (by omega), w64_in (n := M.cntE (M.colv a b C) 32768 j + 1) (by omega) (by omega), w64_in (n := M.cntE (M.colv a b C) 23170 j + 1) (by omega) (by omega),
    decide_eq_true (by omega : (j : Int) < b.length), decide_eq_true (by omega : (0 : Int) ≤ j), Int.toNat_natCast]
  rcases (colOK_iff (colv_ok ha hb hC)).1 j hj with ⟨h1, h2⟩ | h | h
  · rw [h1, h2, bne_self_eq_false, if_pos rfl, if_neg (by decide), Int.add_zero]; rfl
  · rw [h, if_neg (by decide), if_pos rfl, Int.add_zero]; rfl
  · rw [h, if_neg (by decide), if_neg (by decide), Int.add_zero, Int.add_zero]; rfl

def l_CI : Nat → St → Option (Bool × Ex × St)
  | 0, ⟨[(0, .vi .i64 a), (1, .vi .i64 b), (2, .vi .u8 s), (3, .vi .u8 t), (8, .bool false), (9, .ptr 0 0 3), (10, .int .i64 0), (11, .int .i64 c), (12, .int .i64 p), (13, .int .i64 0), (14, .int .i64 0), (79, .vi .i64 a2), (80, .int .i64 x), (81, .int .i64 i), (86, .vi .i64 b2), (87, .int .i64 y), (88, .int .i64 0)], [(0, .fix (.cells [.int .i64 n, .int .i64 m, .vi .i64 L]))], 1⟩ => some (M.okCI a b b2 L n y c p, .exit 2, ciSt a b s t a2 b2 L n m x i y c p (M.cntE (M.colv a b c.toNat) 32768 b.length) (M.cntE (M.colv a b c.toNat) 23170 b.length) y)
  | _, _ => none
noncomputable def u1 : Cfg := o2.addL 6 2 l_CI
theorem u1_ok : CfgOK u1 := addL_ok o2_ok (by kernel_rfl) fun lo st ex st' h => by
  unfold l_CI at h
  split at h
  · simp only [Option.some.injEq, Prod.mk.injEq] at h
    obtain ⟨hc, rfl, rfl⟩ := h
    rename_i a b s t c p a2 x i b2 y n m L
    obtain ⟨ha, hb, rfl, rfl, rfl, rfl, c0, c1, rfl⟩ := okCI_iff hc
    obtain ⟨C, rfl⟩ := Int.eq_ofNat_of_zero_le c0
    have hC : C < a.length := by omega
    refine loop_known (m := 0) (kp := keep 6 2) o2_ok noCall_ok ?_
    refine loop_rule (fun j : Nat => ciSt a b2 s t a2 b2 (M.dflC a b2 a.length) a.length m x i b2.length (C : Nat) (a.getD C 0) (M.cntE (M.colv a b2 C) 32768 j) (M.cntE (M.colv a b2 C) 23170 j) (j : Nat)) (fun j => j ≤ b2.length) (fun j => b2.length - j) (fun _ => (.exit 2, ciSt a b2 s t a2 b2 (M.dflC a b2 a.length) a.length m x i b2.length (C : Nat) (a.getD C 0) (M.cntE (M.colv a b2 C) 32768 b2.length) (M.cntE (M.colv a b2 C) 23170 b2.length) b2.length)) (fun j hj => ?_) 0 (Nat.zero_le _)
    by_cases hlt : j < b2.length
    · exact .inl ⟨j + 1, hlt, by omega, rfl, fun K' => ci_next s t a2 m x i ha hb hC j hlt K'⟩
    · have : j = b2.length := by omega
      subst this
      refine .inr ⟨⟨2, .inl rfl⟩, fun K' => ?_⟩
      rw [ci_step, decide_eq_false (by omega)]
      rfl
  · cases h

namespace M
def okCO (a b a2 L : List Int) (n x : Int) : Bool := mapV a && mapV b && decide (a2 = a) && decide (n = a.length) && decide (L = dflC a b a.length) && decide (x = a.length)
end M
def coSt (a b s t a2 L : List Int) (n m x : Int) (i : Int) : St := ⟨[(0, .vi .i64 a), (1, .vi .i64 b), (2, .vi .u8 s), (3, .vi .u8 t), (8, .bool false), (9, .ptr 0 0 3), (10, .int .i64 0), (79, .vi .i64 a2), (80, .int .i64 x), (81, .int .i64 i)], [(0, .fix (.cells [.int .i64 n, .int .i64 m, .vi .i64 L]))], 1⟩
theorem co_step {R : Type} (a b s t a2 L : List Int) (n m x : Int) (i : Int) (K : Kont R) : execK u1 6 0 (ntAt u1.P 6) noCall 0 none (bodyAt u1.P 6 0) (coSt a b s t a2 L n m x i) (kRes 0 (keep 6 0) K) =
    (bif decide (i < x) then (bif decide (0 ≤ i) && decide (i < a2.length) && true then (bif M.okCI a b b L n (b.length : Int) i (a2.getD i.toNat 0) then (bif decide (b.length < 4294967296) && true then
      (bif !(M.has b (a2.getD i.toNat 0) != (M.cntE (M.colv a b i.toNat) 32768 b.length == 1)) then (bif M.has b (a2.getD i.toNat 0) then (bif !(M.cntE (M.colv a b i.toNat) 23170 b.length != 0) then (bif !decide (M.cntE (M.colv a b i.toNat) 23170 b.length > 2) then (bif M.cntE (M.colv a b i.toNat) 23170 b.length == 2 then (bif a2.getD i.toNat 0 != 3 then K .ret (coSt a b s t a2 L n m x i) else K .normal (coSt a b s t a2 L n m x (M.w64 (i + 1)))) else K .normal (coSt a b s t a2 L n m x (M.w64 (i + 1)))) else K .ret (coSt a b s t a2 L n m x i)) else K .ret (coSt a b s t a2 L n m x i)) else (bif !decide (M.cntE (M.colv a b i.toNat) 23170 b.length > 2) then (bif M.cntE (M.colv a b i.toNat) 23170 b.length == 2 then (bif a2.getD i.toNat 0 != 3 then K .ret (coSt a b s t a2 L n m x i) else K .normal (coSt a b s t a2 L n m x (M.w64 (i + 1)))) else K .normal (coSt a b s t a2 L n m x (M.w64 (i + 1)))) else K .ret (coSt a b s t a2 L n m x i))) else K .ret (coSt a b s t a2 L n m x i)) else none) else none) else none) else K (.exit 0) (coSt a b s t a2 L n m x i)) := by kernel_rfl

theorem co_next {R : Type} {a b : List Int} (s t : List Int) (m : Int) (ha : M.mapV a = true) (hb : M.mapV b = true) (c : Nat) (hc : c < a.length) (K' : Kont R) :
    execK u1 6 0 (ntAt u1.P 6) noCall 0 none (bodyAt u1.P 6 0) (coSt a b s t a (M.dflC a b a.length) a.length m a.length c) (kRes 0 (keep 6 0) K') = K' .normal (coSt a b s t a (M.dflC a b a.length) a.length m a.length (c + 1 : Nat)) := by
  obtain ⟨a1, a2', _⟩ := mapV_iff ha
  obtain ⟨b1, b2', _⟩ := mapV_iff hb
  have hI : M.okCI a b b (M.dflC a b a.length) a.length b.length c (a.getD c 0) = true := by
    unfold M.okCI
    rw [ha, hb, decide_eq_true rfl, decide_eq_true rfl, decide_eq_true rfl, decide_eq_true rfl, decide_eq_true (by omega), decide_eq_true (by omega), Int.toNat_natCast, decide_eq_true rfl]; rfl
  obtain ⟨h1, h2, h3, h4, h5⟩ := colOK_iff (colv_ok ha hb hc)
  rw [co_step, Int.toNat_natCast, hI, decide_eq_true (by omega : (c : Int) < a.length), decide_eq_true (by omega : (0 : Int) ≤ c), decide_eq_true (by omega : b.length < 4294967296), h2, h4, w64_in (n := (c : Int) + 1) (by omega) (by omega)]
  have hT : (bif M.cntE (M.colv a b c) 23170 b.length == 2 then (bif a.getD c 0 != 3 then K' .ret (coSt a b s t a (M.dflC a b a.length) a.length m a.length c) else K' .normal (coSt a b s t a (M.dflC a b a.length) a.length m a.length (c + 1 : Nat))) else K' .normal (coSt a b s t a (M.dflC a b a.length) a.length m a.length (c + 1 : Nat))) = K' .normal (coSt a b s t a (M.dflC a b a.length) a.length m a.length (c + 1 : Nat)) := by
    cases e : (M.cntE (M.colv a b c) 23170 b.length == 2) with
    | false => rfl
    | true => rw [e, Bool.true_and] at h5; rw [h5]; rfl
  cases hp : M.has b (a.getD c 0) with
  | true =>
    rw [hp, Bool.true_and] at h3
    rw [h3]
    exact hT
  | false => exact hT

def l_CO : Nat → St → Option (Bool × Ex × St)
  | 0, ⟨[(0, .vi .i64 a), (1, .vi .i64 b), (2, .vi .u8 s), (3, .vi .u8 t), (8, .bool false), (9, .ptr 0 0 3), (10, .int .i64 0), (79, .vi .i64 a2), (80, .int .i64 x), (81, .int .i64 0)], [(0, .fix (.cells [.int .i64 n, .int .i64 m, .vi .i64 L]))], 1⟩ => some (M.okCO a b a2 L n x, .exit 0, coSt a b s t a2 L n m x x)
  | _, _ => none
noncomputable def u2 : Cfg := u1.addL 6 0 l_CO
theorem u2_ok : CfgOK u2 := addL_ok u1_ok (by kernel_rfl) fun lo st ex st' h => by
  unfold l_CO at h
  split at h
  · simp only [Option.some.injEq, Prod.mk.injEq] at h
    obtain ⟨hc, rfl, rfl⟩ := h
    rename_i a b s t a2 x n m L
    unfold M.okCO at hc
    simp only [Bool.and_eq_true, decide_eq_true_eq] at hc
    obtain ⟨⟨⟨⟨⟨ha, hb⟩, rfl⟩, rfl⟩, rfl⟩, rfl⟩ := hc
    refine loop_known (m := 0) (kp := keep 6 0) u1_ok noCall_ok ?_
    refine loop_rule (fun c : Nat => coSt a2 b s t a2 (M.dflC a2 b a2.length) a2.length m a2.length c) (fun c => c ≤ a2.length) (fun c => a2.length - c) (fun _ => (.exit 0, (fun c : Nat => coSt a2 b s t a2 (M.dflC a2 b a2.length) a2.length m a2.length c) a2.length)) (fun c hc => ?_) 0 (Nat.zero_le _)
    by_cases hlt : c < a2.length
    · exact .inl ⟨c + 1, hlt, by omega, rfl, fun K' => co_next s t m ha hb c hlt K'⟩
    · have : c = a2.length := by omega
      subst this
      refine .inr ⟨⟨0, .inl rfl⟩, fun K' => ?_⟩
      rw [co_step, decide_eq_false (by omega)]
      rfl
  · cases h

end Go.Proofs.Ytplcpdjabjjfiaa
