/- The models of conversions: so many frames, and the resampler behind them. -/
import Derived.Test.YtooiechjanmdjaaCvJ
namespace Go.Proofs.Ytooiechjanmdjaa
open Am
set_option maxRecDepth 100000
set_option linter.unusedVariables false
set_option linter.unusedSimpArgs false
set_option maxHeartbeats 4000000

namespace M
def goneN (c n d j f : Int) (l : List Int) (k : Int) : Nat := min (psK n d j f k * c).toNat l.length
def okPd (c n d j p f : Int) (l : List Int) (k : Int) : Bool := okPr c n d j p f l k && decide (p + psK n d j f k ≤ 1125899906842624)
end M

theorem e_produce (c n d j p f : Int) (l : List Int) (k : Int) (hc : M.okPd c n d j p f l k = true) : Ev (callB y10 noCall 10 76 [.agg [.int .i64 c, .int .i64 n, .int .i64 d, .int .i64 j, .int .i64 p, .int .i64 f, .vi .i32 l], .int .i64 k] [] 0) (.tuple [.agg [.int .i64 c, .vi .i32 (M.outD c n d j f l k.toNat)], .agg [.int .i64 c, .int .i64 n, .int .i64 d, .int .i64 j, .int .i64 (p + M.psK n d j f k), .int .i64 (M.psF n d j f k), .vi .i32 (l.drop (M.goneN c n d j f l k))], .int .i64 0]) := by
  rw [show callB y10 noCall 10 76 [.agg [.int .i64 c, .int .i64 n, .int .i64 d, .int .i64 j, .int .i64 p, .int .i64 f, .vi .i32 l], .int .i64 k] [] 0 = (bif Ph.M.okA n d j p f k && true then (bif decide (0 ≤ M.w64 (k * c)) && decide (M.w64 (k * c) ≤ 4294967296) && true then (bif M.okPr c n d j p f l k && decide (M.w64 (d * 65536) = d * 65536) then (bif decide (0 ≤ (if M.w64 (M.w64 ((p + (f + k * n * (65536 + j)) / (d * 65536)) - p) * c) < (l.length : Int) then M.w64 (M.w64 ((p + (f + k * n * (65536 + j)) / (d * 65536)) - p) * c) else (l.length : Int))) && decide ((if M.w64 (M.w64 ((p + (f + k * n * (65536 + j)) / (d * 65536)) - p) * c) < (l.length : Int) then M.w64 (M.w64 ((p + (f + k * n * (65536 + j)) / (d * 65536)) - p) * c) else (l.length : Int)) ≤ l.length) && true then (bif decide ((List.drop ((if M.w64 (M.w64 ((p + (f + k * n * (65536 + j)) / (d * 65536)) - p) * c) < (l.length : Int) then M.w64 (M.w64 ((p + (f + k * n * (65536 + j)) / (d * 65536)) - p) * c) else (l.length : Int)).toNat * 1) l).length < 4294967296) && true then some (.tuple [.agg [.int .i64 c, .vi .i32 (M.outD c n d j f l k.toNat)], .agg [.int .i64 c, .int .i64 n, .int .i64 d, .int .i64 j, .int .i64 (p + (f + k * n * (65536 + j)) / (d * 65536)), .int .i64 ((f + k * n * (65536 + j)) % (d * 65536)), .vi .i32 (List.drop ((if M.w64 (M.w64 ((p + (f + k * n * (65536 + j)) / (d * 65536)) - p) * c) < (l.length : Int) then M.w64 (M.w64 ((p + (f + k * n * (65536 + j)) / (d * 65536)) - p) * c) else (l.length : Int)).toNat * 1) l)], .int .i64 0], [], 0) else none) else none) else none) else none) else none) by kernel_rfl]
  unfold M.okPd at hc
  rw [Bool.and_eq_true, decide_eq_true_iff] at hc
  obtain ⟨hr, hp⟩ := hc
  obtain ⟨hv, k0, k1, ⟨c1, c2, c3, c4, c5⟩, hk⟩ := okPr_iff hr
  obtain ⟨r1, r2⟩ := psK_range hv k0 k1
  have hv' : Ph.M.valid n d j p f = true := hv
  have hA : Ph.M.okA n d j p f k = true := by
    unfold Ph.M.okA
    rw [hv', decide_eq_true k0, decide_eq_true k1]
    exact decide_eq_true hp
  have a0 : 0 ≤ k * c := Int.mul_nonneg k0 (by omega)
  have a1 : k * c ≤ 65536 * 8 := Int.mul_le_mul k1 c2 (by omega) (by omega)
  have d1 : 1 ≤ d ∧ d ≤ 768000 := by
    obtain ⟨⟨x1, x2, x3⟩, ⟨z1, z2⟩, _⟩ := Ph.valid_iff.1 hv
    exact ⟨x2, z2⟩
  have hK : (f + k * n * (65536 + j)) / (d * 65536) = M.psK n d j f k := rfl
  have hF : (f + k * n * (65536 + j)) % (d * 65536) = M.psF n d j f k := rfl
  have q0 : 0 ≤ M.psK n d j f k * c := Int.mul_nonneg r1 (by omega)
  have q1 : M.psK n d j f k * c ≤ 60000000000 * 8 := Int.mul_le_mul r2 c2 (by omega) (by omega)
  have e1 : M.w64 (M.psK n d j f k) = M.psK n d j f k := w64_in (by omega) (by omega)
  have e2 : M.w64 (M.psK n d j f k * c) = M.psK n d j f k * c := w64_in (by omega) (by omega)
  rw [hA, hr, hK, hF, show p + M.psK n d j f k - p = M.psK n d j f k by omega, e1, e2, w64_in (n := k * c) (by omega) (by omega), w64_in (n := d * 65536) (by omega) (by omega), decide_eq_true a0, decide_eq_true (by omega : k * c ≤ 4294967296), decide_eq_true rfl]
  have hG : (if M.psK n d j f k * c < (l.length : Int) then M.psK n d j f k * c else (l.length : Int)) = ((M.goneN c n d j f l k : Nat) : Int) := by
    unfold M.goneN
    by_cases hlt : M.psK n d j f k * c < (l.length : Int)
    · rw [if_pos hlt, Nat.min_eq_left (by omega)]; omega
    · rw [if_neg hlt, Nat.min_eq_right (by omega)]
  have hle : M.goneN c n d j f l k ≤ l.length := Nat.min_le_right _ _
  rw [hG, decide_eq_true (by omega : (0 : Int) ≤ ((M.goneN c n d j f l k : Nat) : Int)), decide_eq_true (by omega : ((M.goneN c n d j f l k : Nat) : Int) ≤ l.length), Int.toNat_natCast, Nat.mul_one, decide_eq_true (by rw [List.length_drop]; omega : (List.drop (M.goneN c n d j f l k) l).length < 4294967296)]
  exact ⟨_, [], 0, rfl, rfl, .refl _⟩
def m_produce : List AV → Option (Bool × AV)
  | [.agg [.int .i64 c, .int .i64 n, .int .i64 d, .int .i64 j, .int .i64 p, .int .i64 f, l_], .int .i64 k] => (asVi .i32 l_).bind fun l => some (M.okPd c n d j p f l k, .tuple [.agg [.int .i64 c, .vi .i32 (M.outD c n d j f l k.toNat)], .agg [.int .i64 c, .int .i64 n, .int .i64 d, .int .i64 j, .int .i64 (p + M.psK n d j f k), .int .i64 (M.psF n d j f k), .vi .i32 (l.drop (M.goneN c n d j f l k))], .int .i64 0])
  | _ => none
noncomputable def y11 : Cfg := y10.add 76 m_produce
theorem y11_ok : CfgOK y11 := add_ok y10_ok fun xs v h => by
  unfold m_produce at h; split at h
  · obtain ⟨l, h_l, h⟩ := Option.bind_eq_some_iff.1 h
    simp only [Option.some.injEq, Prod.mk.injEq] at h; obtain ⟨h1, rfl⟩ := h
    exact Ev.pure y10_ok noCall_ok (e_produce _ _ _ _ _ _ _ _ h1) (.cons (.agg (.cons (.refl _) (.cons (.refl _) (.cons (.refl _) (.cons (.refl _) (.cons (.refl _) (.cons (.refl _) (.cons (asVi_le h_l) (.refl _))))))))) (.cons (.leaf (.refl _)) (.refl _)))
  · cases h

end Go.Proofs.Ytooiechjanmdjaa
