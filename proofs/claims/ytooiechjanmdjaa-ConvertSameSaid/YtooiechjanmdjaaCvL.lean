/- The models of conversions: frames in and out of a resampler, and those that are left. -/
import Derived.Test.YtooiechjanmdjaaCvK
namespace Go.Proofs.Ytooiechjanmdjaa
open Am
set_option maxRecDepth 100000
set_option linter.unusedVariables false
set_option linter.unusedSimpArgs false
set_option maxHeartbeats 4000000

namespace M
def okFd (c n d j p f : Int) (l : List Int) (k : Int) (b : List Int) : Bool := rsV c n d j p f l && valid k b && decide (k = c) && decide ((l.length : Int) + b.length ≤ 65536 * c) && decide (l.length < 4294967296) && decide (b.length < 4294967296)
/-- the frames that wait -/
def wt (c : Int) (l : List Int) : Int := (l.length : Int).tdiv c
def cnt (c n d j p f : Int) (l : List Int) : Int := Ph.M.mkCnt n d j p f (wt c l)
def okCv (c n d j p f : Int) (l : List Int) (k : Int) (b : List Int) : Bool := okFd c n d j p f l k b && decide (p ≤ 1099511627776)
def left (c d f : Int) (l : List Int) : Int := wt c l * (d * 65536) - f
def fcnt (c n d j f : Int) (l : List Int) (k : Int) : Int := bif decide (left c d f l > 0) then min ((left c d f l + n * (65536 + j) - 1) / (n * (65536 + j))) k else 0
def okFi (c n d j p f : Int) (l : List Int) (k : Int) : Bool := rsV c n d j p f l && decide (0 ≤ k) && decide (k ≤ 65536) && decide (p ≤ 1099511627776) && decide (l.length < 4294967296)
end M
theorem rsV_iff {c n d j p f : Int} {l : List Int} (hl : l.length < 4294967296) (h : M.rsV c n d j p f l = true) : Ph.PV ⟨n, d, j, p, f⟩ ∧ M.valid c l = true ∧ 1 ≤ c ∧ c ≤ 8 ∧ (l.length : Int).tmod c = 0 ∧ l.length ≤ 524288 ∧ l.all M.smp = true := by
  unfold M.rsV at h
  cases hp : Ph.M.valid n d j p f with
  | false => rw [hp] at h; cases h
  | true =>
    rw [hp] at h
    obtain ⟨h1, h2, h3, h4, h5⟩ := valid_ok hl h
    exact ⟨hp, h, h1, h2, h3, h4, h5⟩
theorem cnt_spec {n d j p f : Int} (h : Ph.PV ⟨n, d, j, p, f⟩) {lim : Int} (h1 : 0 ≤ lim) (h2 : lim ≤ 1099511627776) :
    0 ≤ Ph.M.mkCnt n d j p f lim ∧ Ph.M.mkCnt n d j p f lim ≤ 65536 ∧ (Ph.M.mkCnt n d j p f lim < 65536 → lim < Ph.needOf ⟨n, d, j, p, f⟩ (Ph.M.mkCnt n d j p f lim + 1)) ∧ (0 < Ph.M.mkCnt n d j p f lim → Ph.needOf ⟨n, d, j, p, f⟩ (Ph.M.mkCnt n d j p f lim) ≤ lim) := by
  have hr : Ph.M.srch (Ph.over n d j f lim) 65537 0 65536 = Ph.M.mkCnt n d j p f lim := by
    have e := Ph.cnt_of' h h1 h2
    simp only at e
    unfold Ph.M.mkCnt
    rw [e]
    simp only [bne_self_eq_false, cond_false]
  exact Ph.count_spec h lim 65537 (by omega) hr

def m_FeedS : List AV → Option (Bool × AV)
  | [.agg [.int .i64 c, .int .i64 n, .int .i64 d, .int .i64 j, .int .i64 p, .int .i64 f, l_], .agg [.int .i64 k, b_]] => (asVi .i32 l_).bind fun l => (asVi .i32 b_).bind fun b => some (M.okFd c n d j p f l k b, .tuple [.agg [.int .i64 c, .int .i64 n, .int .i64 d, .int .i64 j, .int .i64 p, .int .i64 f, .vi .i32 (l ++ b)], .int .i64 0])
  | _ => none
theorem okFd_iff {c n d j p f : Int} {l : List Int} {k : Int} {b : List Int} (h : M.okFd c n d j p f l k b = true) : M.rsV c n d j p f l = true ∧ M.valid k b = true ∧ k = c ∧ (l.length : Int) + b.length ≤ 65536 * c ∧ l.length < 4294967296 ∧ b.length < 4294967296 := by
  unfold M.okFd at h; simp only [Bool.and_eq_true, decide_eq_true_eq] at h
  obtain ⟨⟨⟨⟨⟨h1, h2⟩, h3⟩, h4⟩, h5⟩, h6⟩ := h
  exact ⟨h1, h2, h3, h4, h5, h6⟩
theorem feed_ok {c n d j p f : Int} {l : List Int} {k : Int} {b : List Int} (h : M.okFd c n d j p f l k b = true) : M.okCat l b = true ∧ M.feedE c n d j p f l k b = 0 := by
  obtain ⟨h1, h2, rfl, h4, h5, h6⟩ := okFd_iff h
  obtain ⟨_, _, c1, c2, c3, c4, _⟩ := rsV_iff h5 h1
  obtain ⟨_, _, _, b4, _⟩ := valid_ok h6 h2
  constructor
  · unfold M.okCat; rw [decide_eq_true (by omega), decide_eq_true (by omega)]; rfl
  · obtain ⟨k, rfl⟩ := Int.eq_ofNat_of_zero_le (show 0 ≤ k by omega)
    have q : (l.length + b.length) / k ≤ 65536 := Nat.div_le_of_le_mul (by rw [Nat.mul_comm]; omega)
    unfold M.feedE
    rw [h1, h2, bne_self_eq_false, w64_in (n := (l.length : Int) + b.length) (by omega) (by omega), ← Int.natCast_add, ← Int.ofNat_tdiv]
    generalize (l.length + b.length) / k = Q at q ⊢
    rw [w64_in (by omega) (by omega), decide_eq_false (by omega)]
    rfl
noncomputable def y12 : Cfg := y11.add 89 m_FeedS
theorem y12_ok : CfgOK y12 := add_ok y11_ok fun xs v h => by
  unfold m_FeedS at h; split at h
  · rename_i c n d j p f l_ k b_
    obtain ⟨l, h_l, h⟩ := Option.bind_eq_some_iff.1 h
    obtain ⟨b, h_b, h⟩ := Option.bind_eq_some_iff.1 h
    simp only [Option.some.injEq, Prod.mk.injEq] at h; obtain ⟨h1, rfl⟩ := h
    obtain ⟨e1, e2⟩ := feed_ok h1
    have e := e_Feed c n d j p f l k b e1
    rw [e2] at e
    exact Ev.pure (inls_ok y2_ok 10 3) noCall_ok e (.cons (.agg (.cons (.refl _) (.cons (.refl _) (.cons (.refl _) (.cons (.refl _) (.cons (.refl _) (.cons (.refl _) (.cons (asVi_le h_l) (.refl _))))))))) (.cons (.agg (.cons (.refl _) (.cons (asVi_le h_b) (.refl _)))) (.refl _)))
  · cases h

theorem e_Conv (c n d j p f : Int) (l : List Int) (k : Int) (b : List Int) (hc : M.okCv c n d j p f l k b = true) : Ev (callB (y12.inls 10 3) noCall 10 74 [.agg [.int .i64 c, .int .i64 n, .int .i64 d, .int .i64 j, .int .i64 p, .int .i64 f, .vi .i32 l], .agg [.int .i64 k, .vi .i32 b]] [] 0) (.tuple [.agg [.int .i64 c, .vi .i32 (M.outD c n d j f (l ++ b) (M.cnt c n d j p f (l ++ b)).toNat)], .agg [.int .i64 c, .int .i64 n, .int .i64 d, .int .i64 j, .int .i64 (p + M.psK n d j f (M.cnt c n d j p f (l ++ b))), .int .i64 (M.psF n d j f (M.cnt c n d j p f (l ++ b))), .vi .i32 ((l ++ b).drop (M.goneN c n d j f (l ++ b) (M.cnt c n d j p f (l ++ b))))], .int .i64 0]) := by
  rw [show callB (y12.inls 10 3) noCall 10 74 [.agg [.int .i64 c, .int .i64 n, .int .i64 d, .int .i64 j, .int .i64 p, .int .i64 f, .vi .i32 l], .agg [.int .i64 k, .vi .i32 b]] [] 0 = (bif M.okFd c n d j p f l k b && true then (bif c != 0 && true then (bif Ph.M.okM n d j p f (M.w64 (((l ++ b).length : Int).tdiv c)) && true then (bif decide ((l ++ b).length < 4294967296) && true then (bif (M.chkR c n d j p f (l ++ b) (Ph.M.mkCnt n d j p f (M.w64 (((l ++ b).length : Int).tdiv c)))) != 0 then some (.tuple [.agg [.int .i64 0, .nilsl], .agg [.int .i64 0, .int .i64 0, .int .i64 0, .int .i64 0, .int .i64 0, .int .i64 0, .nilsl], .int .i64 (M.chkR c n d j p f (l ++ b) (Ph.M.mkCnt n d j p f (M.w64 (((l ++ b).length : Int).tdiv c))))], [], 0) else (bif Ph.M.okN n d j p f (Ph.M.mkCnt n d j p f (M.w64 (((l ++ b).length : Int).tdiv c))) && true then (bif c != 0 && true then (bif decide (Ph.needOf ⟨n, d, j, p, f⟩ (Ph.M.mkCnt n d j p f (M.w64 (((l ++ b).length : Int).tdiv c))) > M.w64 (((l ++ b).length : Int).tdiv c)) then some (.tuple [.agg [.int .i64 0, .nilsl], .agg [.int .i64 0, .int .i64 0, .int .i64 0, .int .i64 0, .int .i64 0, .int .i64 0, .nilsl], .int .i64 4], [], 0) else (bif M.okPd c n d j p f (l ++ b) (Ph.M.mkCnt n d j p f (M.w64 (((l ++ b).length : Int).tdiv c))) && true then some (.tuple [.agg [.int .i64 c, .vi .i32 (M.outD c n d j f (l ++ b) (Ph.M.mkCnt n d j p f (M.w64 (((l ++ b).length : Int).tdiv c))).toNat)], .agg [.int .i64 c, .int .i64 n, .int .i64 d, .int .i64 j, .int .i64 (p + M.psK n d j f (Ph.M.mkCnt n d j p f (M.w64 (((l ++ b).length : Int).tdiv c)))), .int .i64 (M.psF n d j f (Ph.M.mkCnt n d j p f (M.w64 (((l ++ b).length : Int).tdiv c)))), .vi .i32 ((l ++ b).drop (M.goneN c n d j f (l ++ b) (Ph.M.mkCnt n d j p f (M.w64 (((l ++ b).length : Int).tdiv c)))))], .int .i64 0], [], 0) else none)) else none) else none)) else none) else none) else none) else none) by kernel_rfl]
  unfold M.okCv at hc
  rw [Bool.and_eq_true, decide_eq_true_iff] at hc
  obtain ⟨hd, hp⟩ := hc
  obtain ⟨h1, h2, rfl, h4, h5, h6⟩ := okFd_iff hd
  obtain ⟨hv, hcl, c1, c2, c3, c4, c5⟩ := rsV_iff h5 h1
  obtain ⟨_, _, b3, b4, b5⟩ := valid_ok h6 h2
  obtain ⟨k, rfl⟩ := Int.eq_ofNat_of_zero_le (show 0 ≤ k by omega)
  have hv' : Ph.M.valid n d j p f = true := hv
  have hLl : (l ++ b).length = l.length + b.length := List.length_append
  have hLs : (l ++ b).all M.smp = true := by rw [List.all_append, c5, b5]; rfl
  have ml : l.length = l.length / k * k := (Nat.div_mul_cancel (Nat.dvd_of_mod_eq_zero (by rw [← Int.ofNat_tmod] at c3; omega))).symm
  have mb : b.length = b.length / k * k := (Nat.div_mul_cancel (Nat.dvd_of_mod_eq_zero (by rw [← Int.ofNat_tmod] at b3; omega))).symm
  obtain ⟨A, hA⟩ : ∃ A, l.length / k = A := ⟨_, rfl⟩
  obtain ⟨B, hB⟩ : ∃ B, b.length / k = B := ⟨_, rfl⟩
  rw [hA] at ml
  rw [hB] at mb
  clear hA hB
  obtain ⟨W, hW⟩ : ∃ W, A + B = W := ⟨_, rfl⟩
  have hF : (l ++ b).length = W * k := by rw [hLl, ← hW, Nat.add_mul]; omega
  have hw : M.wt k (l ++ b) = (W : Int) := by unfold M.wt; rw [hF, ← Int.ofNat_tdiv, Nat.mul_div_cancel _ (by omega)]
  have hwk : W ≤ 65536 := by
    have : W * k ≤ 65536 * k := by rw [← hF, hLl]; omega
    exact Nat.le_of_mul_le_mul_right this (by omega)
  have hvL : M.valid k (l ++ b) = true := valid_of (by omega) (by omega) hF hwk hLs
  have ew : M.w64 (((l ++ b).length : Int).tdiv k) = M.wt k (l ++ b) := by
    show M.w64 (M.wt k (l ++ b)) = _
    rw [hw]; exact w64_in (by omega) (by omega)
  obtain ⟨n0, n1, n2, n3⟩ := cnt_spec hv (lim := M.wt k (l ++ b)) (by rw [hw]; omega) (by rw [hw]; omega)
  have hN : Ph.M.mkCnt n d j p f (M.wt k (l ++ b)) = M.cnt k n d j p f (l ++ b) := rfl
  rw [hN] at n0 n1 n2 n3
  rw [ew, hN]
  generalize M.cnt k n d j p f (l ++ b) = N at *
  obtain ⟨r1, r2⟩ := psK_range hv n0 n1
  have hneed : ¬ Ph.needOf ⟨n, d, j, p, f⟩ N > M.wt k (l ++ b) := by
    by_cases h0 : N = 0
    · rw [show Ph.needOf ⟨n, d, j, p, f⟩ N = 0 by unfold Ph.needOf; rw [if_pos h0], hw]; omega
    · have := n3 (by omega); omega
  have hlen : N = 0 ∨ (k : Int) ≤ (l ++ b).length := by
    by_cases h0 : N = 0
    · exact .inl h0
    · refine .inr ?_
      have h3 := n3 (by omega)
      have hge : 2 ≤ Ph.needOf ⟨n, d, j, p, f⟩ N := by
        have q := (Ph.quot_ok hv (n := N - 1) (by omega) (by omega)).1
        unfold Ph.needOf
        rw [if_neg h0, Ph.mx_def]
        split <;> omega
      rw [hw] at h3
      rw [hF]
      have : 1 * k ≤ W * k := Nat.mul_le_mul_right _ (by omega)
      omega
  have hPr : M.okPr k n d j p f (l ++ b) N = true := by
    unfold M.okPr
    rw [hv', decide_eq_true n0, decide_eq_true n1, hvL, decide_eq_true (by omega : (l ++ b).length < 4294967296)]
    rcases hlen with h | h
    · rw [decide_eq_true h]; rfl
    · rw [decide_eq_true h, Bool.or_true]; rfl
  have hPd : M.okPd k n d j p f (l ++ b) N = true := by unfold M.okPd; rw [hPr, decide_eq_true (by omega)]; rfl
  have hM : Ph.M.okM n d j p f (M.wt k (l ++ b)) = true := by unfold Ph.M.okM; rw [hv', decide_eq_true (by rw [hw]; omega), decide_eq_true (by rw [hw]; omega)]; rfl
  have hNk : Ph.M.okN n d j p f N = true := by unfold Ph.M.okN; rw [hv', decide_eq_true n0, decide_eq_true n1]; rfl
  have hRV : M.rsV k n d j p f (l ++ b) = true := by unfold M.rsV; rw [hv', hvL]; rfl
  have hCh : M.chkR k n d j p f (l ++ b) N = 0 := by unfold M.chkR; rw [hRV, decide_eq_false (by omega), decide_eq_false (by omega)]; rfl
  rw [hd, hM, hNk, hCh, hPd, decide_eq_false hneed, show ((k : Int) != 0) = true from bne_iff_ne.2 (by omega), decide_eq_true (by omega : (l ++ b).length < 4294967296)]
  exact ⟨_, [], 0, rfl, rfl, .refl _⟩
def m_Conv : List AV → Option (Bool × AV)
  | [.agg [.int .i64 c, .int .i64 n, .int .i64 d, .int .i64 j, .int .i64 p, .int .i64 f, l_], .agg [.int .i64 k, b_]] => (asVi .i32 l_).bind fun l => (asVi .i32 b_).bind fun b => some (M.okCv c n d j p f l k b, .tuple [.agg [.int .i64 c, .vi .i32 (M.outD c n d j f (l ++ b) (M.cnt c n d j p f (l ++ b)).toNat)], .agg [.int .i64 c, .int .i64 n, .int .i64 d, .int .i64 j, .int .i64 (p + M.psK n d j f (M.cnt c n d j p f (l ++ b))), .int .i64 (M.psF n d j f (M.cnt c n d j p f (l ++ b))), .vi .i32 ((l ++ b).drop (M.goneN c n d j f (l ++ b) (M.cnt c n d j p f (l ++ b))))], .int .i64 0])
  | _ => none
noncomputable def y13 : Cfg := y12.add 74 m_Conv
theorem y13_ok : CfgOK y13 := add_ok y12_ok fun xs v h => by
  unfold m_Conv at h; split at h
  · obtain ⟨l, h_l, h⟩ := Option.bind_eq_some_iff.1 h
    obtain ⟨b, h_b, h⟩ := Option.bind_eq_some_iff.1 h
    simp only [Option.some.injEq, Prod.mk.injEq] at h; obtain ⟨h1, rfl⟩ := h
    exact Ev.pure (inls_ok y12_ok 10 3) noCall_ok (e_Conv _ _ _ _ _ _ _ _ _ h1) (.cons (.agg (.cons (.refl _) (.cons (.refl _) (.cons (.refl _) (.cons (.refl _) (.cons (.refl _) (.cons (.refl _) (.cons (asVi_le h_l) (.refl _))))))))) (.cons (.agg (.cons (.refl _) (.cons (asVi_le h_b) (.refl _)))) (.refl _)))
  · cases h

theorem e_Fin (c n d j p f : Int) (l : List Int) (k : Int) (hc : M.okFi c n d j p f l k = true) : Ev (callB (y13.inls 10 3) noCall 10 48 [.agg [.int .i64 c, .int .i64 n, .int .i64 d, .int .i64 j, .int .i64 p, .int .i64 f, .vi .i32 l], .int .i64 k] [] 0) (.tuple [.agg [.int .i64 c, .vi .i32 (M.outD c n d j f l (M.fcnt c n d j f l k).toNat)], .agg [.int .i64 c, .int .i64 n, .int .i64 d, .int .i64 j, .int .i64 (p + M.psK n d j f (M.fcnt c n d j f l k)), .int .i64 (M.psF n d j f (M.fcnt c n d j f l k)), .vi .i32 (l.drop (M.goneN c n d j f l (M.fcnt c n d j f l k)))], .int .i64 0]) := by
  rw [show callB (y13.inls 10 3) noCall 10 48 [.agg [.int .i64 c, .int .i64 n, .int .i64 d, .int .i64 j, .int .i64 p, .int .i64 f, .vi .i32 l], .int .i64 k] [] 0 = (bif decide (l.length < 4294967296) && true then (bif (M.chkR c n d j p f l k) != 0 then some (.tuple [.agg [.int .i64 0, .nilsl], .agg [.int .i64 0, .int .i64 0, .int .i64 0, .int .i64 0, .int .i64 0, .int .i64 0, .nilsl], .int .i64 (M.chkR c n d j p f l k)], [], 0) else (bif c != 0 && true then (bif decide (M.w64 (M.w64 (M.w64 ((l.length : Int).tdiv c) * M.w64 (d * 65536)) - f) > 0) then (bif M.w64 (n * M.w64 (65536 + j)) != 0 && true then (bif M.okPd c n d j p f l (if M.w64 ((M.w64 (M.w64 (M.w64 (M.w64 (M.w64 ((l.length : Int).tdiv c) * M.w64 (d * 65536)) - f) + M.w64 (n * M.w64 (65536 + j))) - 1)).tdiv (M.w64 (n * M.w64 (65536 + j)))) < k then M.w64 ((M.w64 (M.w64 (M.w64 (M.w64 (M.w64 ((l.length : Int).tdiv c) * M.w64 (d * 65536)) - f) + M.w64 (n * M.w64 (65536 + j))) - 1)).tdiv (M.w64 (n * M.w64 (65536 + j)))) else k) && true then some (.tuple [.agg [.int .i64 c, .vi .i32 (M.outD c n d j f l (if M.w64 ((M.w64 (M.w64 (M.w64 (M.w64 (M.w64 ((l.length : Int).tdiv c) * M.w64 (d * 65536)) - f) + M.w64 (n * M.w64 (65536 + j))) - 1)).tdiv (M.w64 (n * M.w64 (65536 + j)))) < k then M.w64 ((M.w64 (M.w64 (M.w64 (M.w64 (M.w64 ((l.length : Int).tdiv c) * M.w64 (d * 65536)) - f) + M.w64 (n * M.w64 (65536 + j))) - 1)).tdiv (M.w64 (n * M.w64 (65536 + j)))) else k).toNat)], .agg [.int .i64 c, .int .i64 n, .int .i64 d, .int .i64 j, .int .i64 (p + M.psK n d j f (if M.w64 ((M.w64 (M.w64 (M.w64 (M.w64 (M.w64 ((l.length : Int).tdiv c) * M.w64 (d * 65536)) - f) + M.w64 (n * M.w64 (65536 + j))) - 1)).tdiv (M.w64 (n * M.w64 (65536 + j)))) < k then M.w64 ((M.w64 (M.w64 (M.w64 (M.w64 (M.w64 ((l.length : Int).tdiv c) * M.w64 (d * 65536)) - f) + M.w64 (n * M.w64 (65536 + j))) - 1)).tdiv (M.w64 (n * M.w64 (65536 + j)))) else k)), .int .i64 (M.psF n d j f (if M.w64 ((M.w64 (M.w64 (M.w64 (M.w64 (M.w64 ((l.length : Int).tdiv c) * M.w64 (d * 65536)) - f) + M.w64 (n * M.w64 (65536 + j))) - 1)).tdiv (M.w64 (n * M.w64 (65536 + j)))) < k then M.w64 ((M.w64 (M.w64 (M.w64 (M.w64 (M.w64 ((l.length : Int).tdiv c) * M.w64 (d * 65536)) - f) + M.w64 (n * M.w64 (65536 + j))) - 1)).tdiv (M.w64 (n * M.w64 (65536 + j)))) else k)), .vi .i32 (l.drop (M.goneN c n d j f l (if M.w64 ((M.w64 (M.w64 (M.w64 (M.w64 (M.w64 ((l.length : Int).tdiv c) * M.w64 (d * 65536)) - f) + M.w64 (n * M.w64 (65536 + j))) - 1)).tdiv (M.w64 (n * M.w64 (65536 + j)))) < k then M.w64 ((M.w64 (M.w64 (M.w64 (M.w64 (M.w64 ((l.length : Int).tdiv c) * M.w64 (d * 65536)) - f) + M.w64 (n * M.w64 (65536 + j))) - 1)).tdiv (M.w64 (n * M.w64 (65536 + j)))) else k)))], .int .i64 0], [], 0) else none) else none) else (bif M.okPd c n d j p f l 0 && true then some (.tuple [.agg [.int .i64 c, .vi .i32 (M.outD c n d j f l 0)], .agg [.int .i64 c, .int .i64 n, .int .i64 d, .int .i64 j, .int .i64 (p + M.psK n d j f (0 : Int)), .int .i64 (M.psF n d j f (0 : Int)), .vi .i32 (l.drop (M.goneN c n d j f l (0 : Int)))], .int .i64 0], [], 0) else none)) else none)) else none) by kernel_rfl]
  unfold M.okFi at hc
  simp only [Bool.and_eq_true, decide_eq_true_eq] at hc
  obtain ⟨⟨⟨⟨h1, k0⟩, k1⟩, hp⟩, h5⟩ := hc
  obtain ⟨hv, hcl, c1, c2, c3, c4, c5⟩ := rsV_iff h5 h1
  have hv' : Ph.M.valid n d j p f = true := hv
  obtain ⟨⟨x1, x2, x3⟩, ⟨z1, z2⟩, ⟨z3, z4⟩, _, z5, z6⟩ := Ph.valid_iff.1 hv
  simp only at x1 x2 z1 z2 z3 z4 z5 z6
  obtain ⟨c, rfl⟩ := Int.eq_ofNat_of_zero_le (show 0 ≤ c by omega)
  have ml : l.length = l.length / c * c := (Nat.div_mul_cancel (Nat.dvd_of_mod_eq_zero (by rw [← Int.ofNat_tmod] at c3; omega))).symm
  have hw : M.wt c l = ((l.length / c : Nat) : Int) := rfl
  have hwk : l.length / c ≤ 524288 := Nat.le_trans (Nat.div_le_self _ _) c4
  obtain ⟨A, hA⟩ : ∃ A, l.length / c = A := ⟨_, rfl⟩
  rw [hA] at ml hw hwk
  clear hA
  have ew : M.w64 ((l.length : Int).tdiv c) = M.wt c l := by
    show M.w64 (M.wt c l) = _
    rw [hw]; exact w64_in (by omega) (by omega)
  have hw0 : 0 ≤ M.wt c l ∧ M.wt c l ≤ 524288 := by rw [hw]; omega
  have p0 : 0 ≤ M.wt c l * (d * 65536) := Int.mul_nonneg hw0.1 (by omega)
  have p1 : M.wt c l * (d * 65536) ≤ 524288 * (768000 * 65536) := Int.mul_le_mul hw0.2 (by omega) (by omega) (by omega)
  have s0 : 1 * 1 ≤ n * (65536 + j) := Int.mul_le_mul x1 (by omega) (by omega) (by omega)
  have s1 : n * (65536 + j) ≤ 768000 * 69632 := Int.mul_le_mul z1 (by omega) (by omega) (by omega)
  have hS : M.w64 (n * M.w64 (65536 + j)) = n * (65536 + j) := by
    rw [w64_in (n := 65536 + j) (by omega) (by omega), w64_in (by omega) (by omega)]
  have hP : M.w64 (d * 65536) = d * 65536 := w64_in (by omega) (by omega)
  have hL : M.w64 (M.w64 (M.wt c l * (d * 65536)) - f) = M.left c d f l := by
    rw [w64_in (n := M.wt c l * (d * 65536)) (by omega) (by omega), w64_in (by omega) (by omega)]; rfl
  have hLb : M.left c d f l ≤ 524288 * (768000 * 65536) ∧ -(768000 * 65536) ≤ M.left c d f l := by
    unfold M.left; omega
  have hCh : M.chkR c n d j p f l k = 0 := by unfold M.chkR; rw [h1, decide_eq_false (by omega), decide_eq_false (by omega)]; rfl
  have hPd : ∀ N : Int, 0 ≤ N → N ≤ 65536 → (N = 0 ∨ (c : Int) ≤ l.length) → M.okPd c n d j p f l N = true := fun N n0 n1 hlen => by
    obtain ⟨r1, r2⟩ := psK_range hv n0 n1
    have hPr : M.okPr c n d j p f l N = true := by
      unfold M.okPr
      rw [hv', decide_eq_true n0, decide_eq_true n1, hcl, decide_eq_true h5]
      rcases hlen with h | h
      · rw [decide_eq_true h]; rfl
      · rw [decide_eq_true h, Bool.or_true]; rfl
    unfold M.okPd; rw [hPr, decide_eq_true (by omega)]; rfl
  rw [hCh, ew, hP, hL, hS, show ((c : Int) != 0) = true from bne_iff_ne.2 (by omega), decide_eq_true h5, show (n * (65536 + j) != 0) = true from bne_iff_ne.2 (by omega)]
  unfold M.fcnt
  by_cases hl : M.left c d f l > 0
  · have hlen : (c : Int) ≤ l.length := by
      have h1' : 1 ≤ A := by
        rcases Nat.eq_zero_or_pos A with h | h
        · have : M.wt c l = 0 := by rw [hw, h]; rfl
          unfold M.left at hl; rw [this] at hl; omega
        · exact h
      have : 1 * c ≤ A * c := Nat.mul_le_mul_right _ h1'
      omega
    have hs1 : M.w64 (M.left c d f l + n * (65536 + j)) = M.left c d f l + n * (65536 + j) := w64_in (by omega) (by omega)
    have hs2 : M.w64 (M.left c d f l + n * (65536 + j) - 1) = M.left c d f l + n * (65536 + j) - 1 := w64_in (by omega) (by omega)
    have hq0 : 0 ≤ (M.left c d f l + n * (65536 + j) - 1) / (n * (65536 + j)) := Int.ediv_nonneg (by omega) (by omega)
    have hq1 : (M.left c d f l + n * (65536 + j) - 1) / (n * (65536 + j)) ≤ M.left c d f l + n * (65536 + j) - 1 := Int.ediv_le_self _ (by omega)
    have hs3 : M.w64 ((M.left c d f l + n * (65536 + j) - 1).tdiv (n * (65536 + j))) = (M.left c d f l + n * (65536 + j) - 1) / (n * (65536 + j)) := by
      rw [Int.tdiv_eq_ediv_of_nonneg (by omega), w64_in (by omega) (by omega)]
    have hm : (if (M.left c d f l + n * (65536 + j) - 1) / (n * (65536 + j)) < k then (M.left c d f l + n * (65536 + j) - 1) / (n * (65536 + j)) else k) = min ((M.left c d f l + n * (65536 + j) - 1) / (n * (65536 + j))) k := by
      generalize (M.left c d f l + n * (65536 + j) - 1) / (n * (65536 + j)) = q
      split <;> omega
    rw [decide_eq_true hl, hs1, hs2, hs3, hm, hPd _ (by generalize (M.left c d f l + n * (65536 + j) - 1) / (n * (65536 + j)) = q at *; omega) (by omega) (.inr hlen)]
    exact ⟨_, [], 0, rfl, rfl, .refl _⟩
  · rw [decide_eq_false hl, hPd 0 (by omega) (by omega) (.inl rfl)]
    exact ⟨_, [], 0, rfl, rfl, .refl _⟩
def m_Fin : List AV → Option (Bool × AV)
  | [.agg [.int .i64 c, .int .i64 n, .int .i64 d, .int .i64 j, .int .i64 p, .int .i64 f, l_], .int .i64 k] => (asVi .i32 l_).bind fun l => some (M.okFi c n d j p f l k, .tuple [.agg [.int .i64 c, .vi .i32 (M.outD c n d j f l (M.fcnt c n d j f l k).toNat)], .agg [.int .i64 c, .int .i64 n, .int .i64 d, .int .i64 j, .int .i64 (p + M.psK n d j f (M.fcnt c n d j f l k)), .int .i64 (M.psF n d j f (M.fcnt c n d j f l k)), .vi .i32 (l.drop (M.goneN c n d j f l (M.fcnt c n d j f l k)))], .int .i64 0])
  | _ => none
noncomputable def y14 : Cfg := y13.add 48 m_Fin
theorem y14_ok : CfgOK y14 := add_ok y13_ok fun xs v h => by
  unfold m_Fin at h; split at h
  · obtain ⟨l, h_l, h⟩ := Option.bind_eq_some_iff.1 h
    simp only [Option.some.injEq, Prod.mk.injEq] at h; obtain ⟨h1, rfl⟩ := h
    exact Ev.pure (inls_ok y13_ok 10 3) noCall_ok (e_Fin _ _ _ _ _ _ _ _ h1) (.cons (.agg (.cons (.refl _) (.cons (.refl _) (.cons (.refl _) (.cons (.refl _) (.cons (.refl _) (.cons (.refl _) (.cons (asVi_le h_l) (.refl _))))))))) (.cons (.leaf (.refl _)) (.refl _)))
  · cases h

end Go.Proofs.Ytooiechjanmdjaa
