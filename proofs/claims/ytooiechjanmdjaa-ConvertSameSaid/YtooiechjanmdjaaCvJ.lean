/- The models of conversions: frames that are made. -/
import Derived.Test.YtooiechjanmdjaaCvI
namespace Go.Proofs.Ytooiechjanmdjaa
open Am
set_option maxRecDepth 100000
set_option linter.unusedVariables false
set_option linter.unusedSimpArgs false
set_option maxHeartbeats 4000000

namespace M
/-- where output frame i stands: the input frame, counted from the first one that waits, and the parts behind it -/
def psK (n d j f i : Int) : Int := (f + i * n * (65536 + j)) / (d * 65536)
def psF (n d j f i : Int) : Int := (f + i * n * (65536 + j)) % (d * 65536)
def outF (c n d j f : Int) (l : List Int) (i : Int) : List Int := rowV (d * 65536) (psF n d j f i) (frm c l (psK n d j f i)) (frm c l (psK n d j f i + 1)) c.toNat
def outD (c n d j f : Int) (l : List Int) (m : Nat) : List Int := (List.range m).flatMap fun i : Nat => outF c n d j f l i
def okPr (c n d j p f : Int) (l : List Int) (k : Int) : Bool := Ph.M.valid n d j p f && decide (0 ≤ k) && decide (k ≤ 65536) && valid c l && decide (l.length < 4294967296) && (decide (k = 0) || decide (c ≤ l.length))
end M
def hAt : List AV → Option (Bool × AV)
  | [.agg [.int .i64 n, .int .i64 d, .int .i64 j, .int .i64 p, .int .i64 f], .int .i64 i] => some (Ph.M.okN n d j p f i, .tuple [.int .i64 (p + M.psK n d j f i), .int .i64 (M.psF n d j f i), .int .i64 0])
  | _ => none
noncomputable def y9 : Cfg := y8.add 93 hAt
theorem y9_ok : CfgOK y9 := add_ok y8_ok fun xs v h => by
  unfold hAt at h; split at h
  · simp only [Option.some.injEq, Prod.mk.injEq] at h
    obtain ⟨h1, rfl⟩ := h
    rename_i n d j p f i
    unfold Ph.M.okN at h1
    simp only [Bool.and_eq_true, decide_eq_true_eq] at h1
    have hv : Ph.PV ⟨n, d, j, p, f⟩ := h1.1.1
    obtain ⟨a1, _, a2, _⟩ := Ph.at_ok hv h1.1.2 h1.2
    have b := Ph.chk_ok hv h1.1.2 h1.2
    have e := Ph.e12 n d j p f i
    simp only at a1 a2 b
    rw [a1, a2, b] at e
    have z : PureOK Try.prog _ _ _ := pure_of_callB Ph.c13_ok noCall_ok e rfl
    exact z
  · cases h
theorem okPr_iff {c n d j p f : Int} {l : List Int} {k : Int} (h : M.okPr c n d j p f l k = true) : Ph.PV ⟨n, d, j, p, f⟩ ∧ 0 ≤ k ∧ k ≤ 65536 ∧ (1 ≤ c ∧ c ≤ 8 ∧ (l.length : Int).tmod c = 0 ∧ l.length ≤ 524288 ∧ l.all M.smp = true) ∧ (k = 0 ∨ c ≤ l.length) := by
  unfold M.okPr at h; simp only [Bool.and_eq_true, Bool.or_eq_true, decide_eq_true_eq] at h
  obtain ⟨⟨⟨⟨⟨h1, h2⟩, h3⟩, h4⟩, h5⟩, h6⟩ := h
  exact ⟨h1, h2, h3, valid_ok h5 h4, h6⟩
theorem psK_range {n d j p f : Int} (h : Ph.PV ⟨n, d, j, p, f⟩) {i : Int} (h0 : 0 ≤ i) (h1 : i ≤ 65536) : 0 ≤ M.psK n d j f i ∧ M.psK n d j f i ≤ 60000000000 := by
  have q := (Ph.quot_ok h h0 h1).1
  obtain ⟨f0, f1⟩ := Ph.far_le h h0 h1
  obtain ⟨⟨x1, x2, x3⟩, _⟩ := Ph.valid_iff.1 h
  simp only at x2
  have hf : f + i * n * (65536 + j) ≤ 3504693313536000 + 50331648000 := f1
  refine ⟨q, ?_⟩
  unfold M.psK
  exact Int.ediv_le_of_le_mul (by omega) (by omega)
theorem frm_len {c : Int} {l : List Int} {k : Int} (c1 : 1 ≤ c) (c2 : c ≤ l.length) : (M.frm c l k).length = c.toNat := by
  have := Nat.min_le_right (k * c).toNat (l.length - c.toNat)
  unfold M.frm
  rw [List.length_take, List.length_drop]
  generalize min (k * c).toNat (l.length - c.toNat) = q at this ⊢
  omega
theorem outF_len (c n d j f : Int) (l : List Int) (i : Int) : (M.outF c n d j f l i).length = c.toNat := rowV_length ..
theorem outD_snoc (c n d j f : Int) (l : List Int) (m : Nat) : M.outD c n d j f l (m + 1) = M.outD c n d j f l m ++ M.outF c n d j f l m := by
  unfold M.outD
  rw [List.range_succ, List.flatMap_append, List.flatMap_singleton]
theorem outD_len (c n d j f : Int) (l : List Int) (m : Nat) : (M.outD c n d j f l m).length = m * c.toNat := flatI_len m fun i hi => outF_len ..

def jSt (pt c n2 d2 j2 p2 f2 c0 n d j p f : Int) (l : List Int) (k : Int) (o : List Int) (i : Int) : St := ⟨[(2, .ptr 0 0 7), (4, .ptr 1 0 2), (5, .ptr 2 0 7), (6, .int .i64 0), (7, .ptr 3 0 5), (9, .int .i64 pt), (10, .ptr 5 0 2), (47, .int .i64 k), (48, .int .i64 i)], [(4, .grow 1 0 (.ints .i32 o)), (5, .fix (.cells [.int .i64 c, .gsl 4 0])), (3, .fix (.cells [.int .i64 n2, .int .i64 d2, .int .i64 j2, .int .i64 p2, .int .i64 f2])), (2, .fix (.cells [.int .i64 0, .int .i64 0, .int .i64 0, .int .i64 0, .int .i64 0, .int .i64 0, .nilsl])), (1, .fix (.cells [.int .i64 0, .nilsl])), (0, .fix (.cells [.int .i64 c0, .int .i64 n, .int .i64 d, .int .i64 j, .int .i64 p, .int .i64 f, .vi .i32 l]))], 6⟩
theorem j_step {R : Type} (pt c n2 d2 j2 p2 f2 c0 n d j p f : Int) (l : List Int) (k : Int) (o : List Int) (i : Int) (K : Kont R) : execK y9 76 0 (ntAt y9.P 76) noCall 0 none (bodyAt y9.P 76 0) (jSt pt c n2 d2 j2 p2 f2 c0 n d j p f l k o i) (kRes 0 (some [2, 4, 5, 6, 7, 9, 10, 47, 48]) K) =
    (bif decide (i < k) then (bif Ph.M.okN n d j p f i && true then (bif M.okFr c0 l (M.w64 (p + M.psK n d j f i - p)) && true then (bif M.okFr c0 l (M.w64 (M.w64 (p + M.psK n d j f i - p) + 1)) && true then (bif M.okMix (M.frm c0 l (M.w64 (p + M.psK n d j f i - p))) (M.frm c0 l (M.w64 (M.w64 (p + M.psK n d j f i - p) + 1))) pt ((M.frm c0 l (M.w64 (p + M.psK n d j f i - p))).length : Int) o then K .normal (jSt pt c n2 d2 j2 p2 f2 c0 n d j p f l k (o ++ M.rowV pt (M.psF n d j f i) (M.frm c0 l (M.w64 (p + M.psK n d j f i - p))) (M.frm c0 l (M.w64 (M.w64 (p + M.psK n d j f i - p) + 1))) (M.frm c0 l (M.w64 (p + M.psK n d j f i - p))).length) (M.w64 (i + 1))) else none) else none) else none) else none) else K (.exit 0) (jSt pt c n2 d2 j2 p2 f2 c0 n d j p f l k o i)) := by kernel_rfl
theorem j_next {R : Type} (c n2 d2 j2 p2 f2 : Int) {c0 n d j p f : Int} {l : List Int} {k : Int} (h : M.okPr c0 n d j p f l k = true) (i : Nat) (hi : (i : Int) < k) (K' : Kont R) : execK y9 76 0 (ntAt y9.P 76) noCall 0 none (bodyAt y9.P 76 0) (jSt (d * 65536) c n2 d2 j2 p2 f2 c0 n d j p f l k (M.outD c0 n d j f l i) i) (kRes 0 (some [2, 4, 5, 6, 7, 9, 10, 47, 48]) K') = K' .normal (jSt (d * 65536) c n2 d2 j2 p2 f2 c0 n d j p f l k (M.outD c0 n d j f l (i + 1)) (i + 1 : Nat)) := by
  obtain ⟨hv, k0, k1, ⟨c1, c2, c3, c4, c5⟩, hk⟩ := okPr_iff h
  have hcl : c0 ≤ l.length := by omega
  obtain ⟨r1, r2⟩ := psK_range hv (i := (i : Int)) (by omega) (by omega)
  have hN : Ph.M.okN n d j p f i = true := by
    have hv' : Ph.M.valid n d j p f = true := hv
    unfold Ph.M.okN; rw [hv', decide_eq_true (by omega), decide_eq_true (by omega)]; rfl
  have e1 : M.w64 (p + M.psK n d j f i - p) = M.psK n d j f i := by rw [show p + M.psK n d j f i - p = M.psK n d j f i by omega]; exact w64_in (by omega) (by omega)
  have e2 : M.w64 (M.psK n d j f i + 1) = M.psK n d j f i + 1 := w64_in (by omega) (by omega)
  have hF : ∀ q : Int, 0 ≤ q → q ≤ 60000000001 → M.okFr c0 l q = true := fun q q0 q1 => by
    unfold M.okFr
    rw [decide_eq_true c1, decide_eq_true c2, decide_eq_true hcl, decide_eq_true (by omega), decide_eq_true q0, decide_eq_true (by omega)]; rfl
  have hd : d * 65536 ≠ 0 := by
    obtain ⟨⟨x1, x2, x3⟩, ⟨y1, y2⟩, _⟩ := Ph.valid_iff.1 hv
    simp only at x2
    omega
  have hol : (M.outD c0 n d j f l i).length ≤ 524288 := by
    rw [outD_len]
    exact Nat.mul_le_mul (show i ≤ 65536 by omega) (show c0.toNat ≤ 8 by omega)
  have hM : M.okMix (M.frm c0 l (M.psK n d j f i)) (M.frm c0 l (M.psK n d j f i + 1)) (d * 65536) ((M.frm c0 l (M.psK n d j f i)).length : Int) (M.outD c0 n d j f l i) = true := by
    unfold M.okMix
    rw [frm_len c1 hcl, frm_len c1 hcl, decide_eq_true rfl, decide_eq_true rfl, decide_eq_true (by omega), decide_eq_true hd, decide_eq_true (by omega)]; rfl
  rw [j_step, decide_eq_true hi, hN, e1, e2, hF _ r1 (by omega), hF _ (by omega) (by omega), hM, frm_len c1 hcl, outD_snoc, w64_in (n := (i : Int) + 1) (by omega) (by omega)]
  rfl

def l_prod : Nat → St → Option (Bool × Ex × St)
  | 0, ⟨[(2, .ptr 0 0 7), (4, .ptr 1 0 2), (5, .ptr 2 0 7), (6, .int .i64 0), (7, .ptr 3 0 5), (9, .int .i64 pt), (10, .ptr 5 0 2), (47, .int .i64 k), (48, .int .i64 0)], [(4, .grow 1 0 (.ints .i32 [])), (5, .fix (.cells [.int .i64 c, .gsl 4 0])), (3, .fix (.cells [.int .i64 n2, .int .i64 d2, .int .i64 j2, .int .i64 p2, .int .i64 f2])), (2, .fix (.cells [.int .i64 0, .int .i64 0, .int .i64 0, .int .i64 0, .int .i64 0, .int .i64 0, .nilsl])), (1, .fix (.cells [.int .i64 0, .nilsl])), (0, .fix (.cells [.int .i64 c0, .int .i64 n, .int .i64 d, .int .i64 j, .int .i64 p, .int .i64 f, .vi .i32 l]))], 6⟩ => some (M.okPr c0 n d j p f l k && decide (pt = d * 65536), .exit 0, jSt pt c n2 d2 j2 p2 f2 c0 n d j p f l k (M.outD c0 n d j f l k.toNat) k)
  | _, _ => none
noncomputable def y10 : Cfg := y9.addL 76 0 l_prod
theorem y10_ok : CfgOK y10 := addL_ok y9_ok (by kernel_rfl) fun lo st ex st' h => by
  unfold l_prod at h
  split at h
  · simp only [Option.some.injEq, Prod.mk.injEq] at h
    obtain ⟨hc, rfl, rfl⟩ := h
    rename_i pt k c n2 d2 j2 p2 f2 c0 n d j p f l
    rw [Bool.and_eq_true, decide_eq_true_iff] at hc
    obtain ⟨hc, rfl⟩ := hc
    obtain ⟨hv, k0, k1, _⟩ := okPr_iff hc
    obtain ⟨k, rfl⟩ := Int.eq_ofNat_of_zero_le k0
    rw [Int.toNat_natCast]
    refine loop_known (m := 0) (kp := (some [2, 4, 5, 6, 7, 9, 10, 47, 48])) y9_ok noCall_ok ?_
    exact loop_rule (lo := 0) (kp := (some [2, 4, 5, 6, 7, 9, 10, 47, 48])) (b := execK y9 76 0 (ntAt y9.P 76) noCall 0 none (bodyAt y9.P 76 0)) (K := fun ex st => some (ex, st)) (fun i : Nat => jSt (d * 65536) c n2 d2 j2 p2 f2 c0 n d j p f l k (M.outD c0 n d j f l i) i) (fun i => i ≤ k) (fun i => k - i) (fun _ => (.exit 0, jSt (d * 65536) c n2 d2 j2 p2 f2 c0 n d j p f l k (M.outD c0 n d j f l k) k)) (fun i hi => by
      by_cases hlt : i < k
      · exact .inl ⟨i + 1, hlt, by omega, rfl, fun K' => j_next _ _ _ _ _ _ hc i (by omega) K'⟩
      · have : i = k := by omega
        subst this
        refine .inr ⟨⟨0, .inl rfl⟩, fun K' => ?_⟩
        rw [j_step, decide_eq_false (by omega)]
        rfl) 0 (Nat.zero_le _)
  · cases h

end Go.Proofs.Ytooiechjanmdjaa
