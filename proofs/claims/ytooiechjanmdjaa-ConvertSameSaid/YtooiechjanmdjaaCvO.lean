/- The models of conversions: Run and Finish. -/
import Derived.Test.YtooiechjanmdjaaCvP
namespace Go.Proofs.Ytooiechjanmdjaa
open Am
set_option maxRecDepth 100000
set_option linter.unusedVariables false
set_option linter.unusedSimpArgs false
set_option maxHeartbeats 4000000

namespace M
def encB (k : Int) (x : List Int) : List Int := x.flatMap (encS (fsz k) (fbg k))
def decB (k : Int) (b : List Int) : List Int := decAll (fsz k) (fbg k) b
def rnX (mi mo : Int) (co : List Int) (k : Int) (b : List Int) : List Int := apD mi mo co (decB k b) ((decB k b).length / mi.toNat)
def rnE (k r : Int) (l b : List Int) : Int := bif (b.length : Int).tmod (frsz k r l) == 0 then 0 else 4
def okRn (k r : Int) (l : List Int) (k' r' : Int) (l' : List Int) (mi mo : Int) (co : List Int) (c n d j p f : Int) (rt b : List Int) : Bool := cvV k r l k' r' l' mi mo co c n d j p f rt && mtxV mi mo co && byt b && decide (b.length ≤ 4096) && decide (rt.length ≤ 32768) && decide (p ≤ 1099511627776) && decide (l.length < 4294967296) && decide (l'.length < 4294967296)
def okFn (k r : Int) (l : List Int) (k' r' : Int) (l' : List Int) (mi mo : Int) (co : List Int) (c n d j p f : Int) (rt : List Int) : Bool := cvV k r l k' r' l' mi mo co c n d j p f rt && mtxV mi mo co && decide (rt.length ≤ 32768) && decide (p ≤ 1099511627776) && decide (l.length < 4294967296) && decide (l'.length < 4294967296)
end M
theorem cvE_zero {k r : Int} {l : List Int} {k' r' : Int} {l' : List Int} : M.cvE k r l k' r' l' = 0 ↔ M.fits k r l = true ∧ M.fits k' r' l' = true := by
  unfold M.cvE
  cases M.fits k r l <;> cases M.fits k' r' l' <;> simp
theorem cvV_iff {k r : Int} {l : List Int} {k' r' : Int} {l' : List Int} {mi mo : Int} {co : List Int} {c n d j p f : Int} {rt : List Int} :
    M.cvV k r l k' r' l' mi mo co c n d j p f rt = true ↔ M.fits k r l = true ∧ M.fits k' r' l' = true ∧ mi = l.length ∧ mo = l'.length ∧ co = M.dflC l l' l.length ∧ M.rsV c n d j p f rt = true ∧ c = l'.length ∧ n = Ph.M.mkN r r' ∧ d = Ph.M.mkD r r' := by
  unfold M.cvV
  by_cases hE : M.cvE k r l k' r' l' = 0
  · have hf := cvE_zero.1 hE
    rw [hE]
    have e1 : ∀ x : Int, M.un 0 x = x := fun _ => rfl
    have e2 : ∀ x : List Int, M.unL 0 x = x := fun _ => rfl
    simp only [e1, e2, hf.1, hf.2, M.eqL]
    simp only [beq_self_eq_true, cond_true, true_and, Bool.cond_eq_ite, Bool.ite_eq_true_distrib, beq_iff_eq, decide_eq_true_eq, Bool.and_eq_true, and_true, Bool.false_eq_true, if_false_right, if_true_right]
  · rw [show (M.cvE k r l k' r' l' == 0) = false by simpa using hE]
    simp only [cond_false, Bool.false_eq_true, false_iff]
    intro h
    exact hE (cvE_zero.2 ⟨h.1, h.2.1⟩)
theorem kind_of {k : Int} (h : 0 < M.fsz k) : 1 ≤ k ∧ k ≤ 7 := by
  rcases kinds k with rfl | rfl | rfl | rfl | rfl | rfl | rfl | ⟨a1, a2, a3, a4, a5, a6, a7⟩ <;> first | omega | skip
  unfold M.fsz at h
  rw [a1, a2, a3, a4, a5, a6, a7] at h
  cases h
theorem frsz_eq {k r : Int} {l : List Int} (h : M.fits k r l = true) : M.frsz k r l = M.fsz k * l.length ∧ ((M.fsz k).toNat : Int) = M.fsz k ∧ 1 ≤ (M.fsz k).toNat ∧ (M.fsz k).toNat ≤ 4 ∧ 1 ≤ l.length ∧ l.length ≤ 8 ∧ 1 ≤ k ∧ k ≤ 7 ∧ 1 ≤ (M.fsz k).toNat * l.length ∧ (M.fsz k).toNat * l.length ≤ 32 := by
  obtain ⟨h1, h2, h3, h4⟩ := fits_iff h
  obtain ⟨k1, k2⟩ := kind_of h1
  obtain ⟨z1, z2, z3⟩ := okF_sz (Sp.kind_okF k1 k2)
  obtain ⟨m1, m2, _⟩ := mapV_iff h4
  have a : (M.fsz k).toNat * l.length ≤ 4 * 8 := Nat.mul_le_mul (by omega) m2
  have b : 1 * 1 ≤ (M.fsz k).toNat * l.length := Nat.mul_le_mul (by omega) m1
  have e : M.fsz k * l.length = (((M.fsz k).toNat * l.length : Nat) : Int) := by rw [Int.natCast_mul, z3]
  refine ⟨?_, z3, by omega, by omega, m1, m2, k1, k2, b, a⟩
  unfold M.frsz
  rw [h, e]
  exact w64_in (by omega) (by omega)
theorem decB_len (k : Int) (b : List Int) : (M.decB k b).length = b.length / (M.fsz k).toNat := decN_len ..
theorem rnX_len {l : List Int} {mo : Nat} {co : List Int} {k : Int} {b : List Int} : (M.rnX l.length mo co k b).length = (M.decB k b).length / l.length * mo := by
  unfold M.rnX
  rw [Int.toNat_natCast, apD_len]
/-- what goes through: the bytes of whole frames -/
theorem run_core {k r : Int} {l : List Int} {k' r' : Int} {l' : List Int} {mi mo : Int} {co : List Int} {c n d j p f : Int} {rt b : List Int} (hc : M.okRn k r l k' r' l' mi mo co c n d j p f rt b = true) (hb : (b.length : Int).tmod (M.frsz k r l) = 0) :
    M.decE k b = 0 ∧ M.decL k b = M.decB k b ∧ (M.decB k b).length < 4294967296 ∧ M.apE mi mo co l.length (M.decB k b) = 0 ∧ M.apO mi mo co l.length (M.decB k b) = mo ∧ M.apR mi mo co l.length (M.decB k b) = M.rnX mi mo co k b ∧
    M.okCv c n d j p f rt mo (M.rnX mi mo co k b) = true ∧ (∀ m : Nat, m ≤ 65536 → M.encE k' (M.outD c n d j f (rt ++ M.rnX mi mo co k b) m) = 0 ∧ M.encL k' (M.outD c n d j f (rt ++ M.rnX mi mo co k b) m) = M.encB k' (M.outD c n d j f (rt ++ M.rnX mi mo co k b) m)) ∧
    (M.cnt c n d j p f (rt ++ M.rnX mi mo co k b)).toNat ≤ 65536 := by
  unfold M.okRn at hc
  simp only [Bool.and_eq_true, decide_eq_true_eq] at hc
  obtain ⟨⟨⟨⟨⟨⟨⟨hV, hM⟩, hB⟩, hbl⟩, hrt⟩, hp⟩, hl1⟩, hl2⟩ := hc
  obtain ⟨f1, f2, rfl, rfl, rfl, hrs, rfl, rfl, rfl⟩ := cvV_iff.1 hV
  obtain ⟨z1, z2, z3, z4, z5, z6, z7, z8, z9, z10⟩ := frsz_eq f1
  obtain ⟨y1, y2, y3, y4, y5, y6, y7, y8, y9, y10⟩ := frsz_eq f2
  obtain ⟨hPV, hvr, c1, c2, c3, c4, c5⟩ := rsV_iff (by omega) hrs
  have e : M.fsz k * l.length = (((M.fsz k).toNat * l.length : Nat) : Int) := by rw [Int.natCast_mul, z2]
  rw [z1, e, ← Int.ofNat_tmod] at hb
  have hb' : b.length % ((M.fsz k).toNat * l.length) = 0 := by omega
  obtain ⟨F, hF⟩ := Nat.dvd_of_mod_eq_zero hb'
  have hF2 : b.length = (M.fsz k).toNat * (l.length * F) := by rw [hF, Nat.mul_assoc]
  obtain ⟨d1, d2⟩ := Sp.dec_ok (k := k) z7 z8 (l := b) (by rw [hF2]; exact Nat.mul_mod_right _ _) (by omega)
  have hdl : (M.decB k b).length = F * l.length := by rw [decB_len, hF2, Nat.mul_div_cancel_left _ (by omega), Nat.mul_comm]
  have hFle : F ≤ 4096 := by
    have : 1 * F ≤ (M.fsz k).toNat * l.length * F := Nat.mul_le_mul_right _ z9
    omega
  have hds : (M.decB k b).all M.smp = true := Sp.all_smp (Sp.decAll_smp _ _ _)
  have hdl' : F * l.length ≤ 4096 * 8 := Nat.mul_le_mul hFle z6
  have hv : M.valid l.length (M.decB k b) = true := valid_of z5 z6 hdl (by omega) hds
  have hA : M.okA2 l.length l'.length (M.dflC l l' l.length) l.length (M.decB k b) = true := by
    have hz : (l.length : Int) * l'.length = ((l.length * l'.length : Nat) : Int) := (Int.natCast_mul _ _).symm
    have hz' : l.length * l'.length ≤ 8 * 8 := Nat.mul_le_mul z6 y6
    unfold M.okA2
    rw [hM, hv, decide_eq_true rfl, decide_eq_true (by rw [dflC_length]; omega), decide_eq_true (by omega)]; rfl
  obtain ⟨a1, a2, a3⟩ := ap_simple hA
  have hxl : (M.rnX l.length l'.length (M.dflC l l' l.length) k b).length = F * l'.length := by rw [rnX_len, hdl, Nat.mul_div_cancel _ (by omega)]
  have hxs : (M.rnX l.length l'.length (M.dflC l l' l.length) k b).all M.smp = true := apD_smp ..
  have hxv : M.valid l'.length (M.rnX l.length l'.length (M.dflC l l' l.length) k b) = true := valid_of y5 y6 hxl (by omega) hxs
  have hx8 : F * l'.length ≤ 4096 * l'.length := Nat.mul_le_mul_right _ hFle
  have hFd : M.okFd l'.length (Ph.M.mkN r r') (Ph.M.mkD r r') j p f rt l'.length (M.rnX l.length l'.length (M.dflC l l' l.length) k b) = true := by
    unfold M.okFd
    rw [hrs, hxv, decide_eq_true rfl, decide_eq_true (by omega : (rt.length : Int) + (M.rnX l.length l'.length (M.dflC l l' l.length) k b).length ≤ 65536 * (l'.length : Int)), decide_eq_true (by omega : rt.length < 4294967296), decide_eq_true (by omega : (M.rnX l.length l'.length (M.dflC l l' l.length) k b).length < 4294967296)]; rfl
  have hall : (rt ++ M.rnX l.length l'.length (M.dflC l l' l.length) k b).all M.smp = true := by rw [List.all_append, c5, hxs]; rfl
  have hw0 : 0 ≤ M.wt l'.length (rt ++ M.rnX l.length l'.length (M.dflC l l' l.length) k b) := by unfold M.wt; exact Int.tdiv_nonneg (by omega) (by omega)
  have hw1 : M.wt l'.length (rt ++ M.rnX l.length l'.length (M.dflC l l' l.length) k b) ≤ 1099511627776 := by
    unfold M.wt
    have := Int.ediv_le_self (a := ((rt ++ M.rnX l.length l'.length (M.dflC l l' l.length) k b).length : Int)) (l'.length : Int) (by omega)
    rw [Int.tdiv_eq_ediv_of_nonneg (by omega)]
    rw [List.length_append] at this ⊢
    omega
  have hcnt := cnt_spec hPV hw0 hw1
  refine ⟨d1, d2, by omega, a1, a2, a3, ?_, fun m hm => ?_, ?_⟩
  · unfold M.okCv; rw [hFd, decide_eq_true hp]; rfl
  · refine Sp.enc_ok y7 y8 (List.all_eq_true.1 (outD_smp hPV hall m)) ?_
    rw [outD_len, Int.toNat_natCast]
    exact Nat.mul_le_mul hm y6
  · have : M.cnt l'.length (Ph.M.mkN r r') (Ph.M.mkD r r') j p f (rt ++ M.rnX l.length l'.length (M.dflC l l' l.length) k b) ≤ 65536 := hcnt.2.1
    omega

theorem e_cvRun (k r : Int) (l : List Int) (k' r' : Int) (l' : List Int) (mi mo : Int) (co : List Int) (c n d j p f : Int) (rt b : List Int) (hc : M.okRn k r l k' r' l' mi mo co c n d j p f rt b = true) : Ev (callB (y16.inls 10 3) noCall 10 21 [.agg [.int .i64 k, .int .i64 r, .vi .i64 l, .int .i64 k', .int .i64 r', .vi .i64 l', .int .i64 mi, .int .i64 mo, .vi .i64 co, .int .i64 c, .int .i64 n, .int .i64 d, .int .i64 j, .int .i64 p, .int .i64 f, .vi .i32 rt], .vi .u8 b] [] 0) (.tuple [.vi .u8 (M.unL (M.rnE k r l b) (M.encB k' (M.outD c n d j f (rt ++ (M.rnX mi mo co k b)) (M.cnt c n d j p f (rt ++ (M.rnX mi mo co k b))).toNat))), .agg [.int .i64 (M.un (M.rnE k r l b) k), .int .i64 (M.un (M.rnE k r l b) r), .vi .i64 (M.unL (M.rnE k r l b) l), .int .i64 (M.un (M.rnE k r l b) k'), .int .i64 (M.un (M.rnE k r l b) r'), .vi .i64 (M.unL (M.rnE k r l b) l'), .int .i64 (M.un (M.rnE k r l b) mi), .int .i64 (M.un (M.rnE k r l b) mo), .vi .i64 (M.unL (M.rnE k r l b) co), .int .i64 (M.un (M.rnE k r l b) c), .int .i64 (M.un (M.rnE k r l b) n), .int .i64 (M.un (M.rnE k r l b) d), .int .i64 (M.un (M.rnE k r l b) j), .int .i64 (M.un (M.rnE k r l b) (p + M.psK n d j f (M.cnt c n d j p f (rt ++ (M.rnX mi mo co k b))))), .int .i64 (M.un (M.rnE k r l b) (M.psF n d j f (M.cnt c n d j p f (rt ++ (M.rnX mi mo co k b))))), .vi .i32 (M.unL (M.rnE k r l b) ((rt ++ (M.rnX mi mo co k b)).drop (M.goneN c n d j f (rt ++ (M.rnX mi mo co k b)) (M.cnt c n d j p f (rt ++ (M.rnX mi mo co k b))))))], .int .i64 (M.rnE k r l b)]) := by
  rw [show callB (y16.inls 10 3) noCall 10 21 [.agg [.int .i64 k, .int .i64 r, .vi .i64 l, .int .i64 k', .int .i64 r', .vi .i64 l', .int .i64 mi, .int .i64 mo, .vi .i64 co, .int .i64 c, .int .i64 n, .int .i64 d, .int .i64 j, .int .i64 p, .int .i64 f, .vi .i32 rt], .vi .u8 b] [] 0 = (bif decide (l.length < 4294967296) && decide (l'.length < 4294967296) && (decide (co.length < 4294967296) && decide (rt.length < 4294967296)) && true then (bif !M.cvV k r l k' r' l' mi mo co c n d j p f rt then some (.tuple [.nilsl, .agg [.int .i64 0, .int .i64 0, .nilsl, .int .i64 0, .int .i64 0, .nilsl, .int .i64 0, .int .i64 0, .nilsl, .int .i64 0, .int .i64 0, .int .i64 0, .int .i64 0, .int .i64 0, .int .i64 0, .nilsl], .int .i64 1], [], 0) else (bif decide (l.length < 4294967296) && true then (bif M.frsz k r l != 0 && true then (bif (b.length : Int).tmod (M.frsz k r l) != 0 then some (.tuple [.nilsl, .agg [.int .i64 0, .int .i64 0, .nilsl, .int .i64 0, .int .i64 0, .nilsl, .int .i64 0, .int .i64 0, .nilsl, .int .i64 0, .int .i64 0, .int .i64 0, .int .i64 0, .int .i64 0, .int .i64 0, .nilsl], .int .i64 4], [], 0) else (bif M.frsz k r l != 0 && true then (bif decide (M.w64 ((b.length : Int).tdiv (M.frsz k r l)) > 65536) then some (.tuple [.nilsl, .agg [.int .i64 0, .int .i64 0, .nilsl, .int .i64 0, .int .i64 0, .nilsl, .int .i64 0, .int .i64 0, .nilsl, .int .i64 0, .int .i64 0, .int .i64 0, .int .i64 0, .int .i64 0, .int .i64 0, .nilsl], .int .i64 3], [], 0) else (bif decide (l.length < 4294967296) && true then (bif decide (l'.length < 4294967296) && true then (bif decide (co.length < 4294967296) && true then (bif M.byt b && decide (b.length < 4294967296) && true then (bif M.decE k b != 0 then some (.tuple [.nilsl, .agg [.int .i64 0, .int .i64 0, .nilsl, .int .i64 0, .int .i64 0, .nilsl, .int .i64 0, .int .i64 0, .nilsl, .int .i64 0, .int .i64 0, .int .i64 0, .int .i64 0, .int .i64 0, .int .i64 0, .nilsl], .int .i64 (M.decE k b)], [], 0) else (bif decide (co.length < 4294967296) && decide ((M.decL k b).length < 4294967296) && true then (bif M.apE mi mo co (l.length : Int) (M.decL k b) != 0 then some (.tuple [.nilsl, .agg [.int .i64 0, .int .i64 0, .nilsl, .int .i64 0, .int .i64 0, .nilsl, .int .i64 0, .int .i64 0, .nilsl, .int .i64 0, .int .i64 0, .int .i64 0, .int .i64 0, .int .i64 0, .int .i64 0, .nilsl], .int .i64 (M.apE mi mo co (l.length : Int) (M.decL k b))], [], 0) else (bif M.okCv c n d j p f rt (M.apO mi mo co (l.length : Int) (M.decL k b)) (M.apR mi mo co (l.length : Int) (M.decL k b)) && true then (bif M.encE k' (M.outD c n d j f (rt ++ (M.apR mi mo co (l.length : Int) (M.decL k b))) (M.cnt c n d j p f (rt ++ (M.apR mi mo co (l.length : Int) (M.decL k b)))).toNat) != 0 then some (.tuple [.nilsl, .agg [.int .i64 0, .int .i64 0, .nilsl, .int .i64 0, .int .i64 0, .nilsl, .int .i64 0, .int .i64 0, .nilsl, .int .i64 0, .int .i64 0, .int .i64 0, .int .i64 0, .int .i64 0, .int .i64 0, .nilsl], .int .i64 (M.encE k' (M.outD c n d j f (rt ++ (M.apR mi mo co (l.length : Int) (M.decL k b))) (M.cnt c n d j p f (rt ++ (M.apR mi mo co (l.length : Int) (M.decL k b)))).toNat))], [], 0) else some (.tuple [.vi .u8 (M.encL k' (M.outD c n d j f (rt ++ (M.apR mi mo co (l.length : Int) (M.decL k b))) (M.cnt c n d j p f (rt ++ (M.apR mi mo co (l.length : Int) (M.decL k b)))).toNat)), .agg [.int .i64 k, .int .i64 r, .vi .i64 l, .int .i64 k', .int .i64 r', .vi .i64 l', .int .i64 mi, .int .i64 mo, .vi .i64 co, .int .i64 c, .int .i64 n, .int .i64 d, .int .i64 j, .int .i64 (p + M.psK n d j f (M.cnt c n d j p f (rt ++ (M.apR mi mo co (l.length : Int) (M.decL k b))))), .int .i64 (M.psF n d j f (M.cnt c n d j p f (rt ++ (M.apR mi mo co (l.length : Int) (M.decL k b))))), .vi .i32 (List.drop (M.goneN c n d j f (rt ++ (M.apR mi mo co (l.length : Int) (M.decL k b))) (M.cnt c n d j p f (rt ++ (M.apR mi mo co (l.length : Int) (M.decL k b))))) (rt ++ (M.apR mi mo co (l.length : Int) (M.decL k b))))], .int .i64 0], [], 0)) else none)) else none)) else none) else none) else none) else none)) else none)) else none) else none)) else none) by kernel_rfl]
  have hc' := hc
  unfold M.okRn at hc'
  simp only [Bool.and_eq_true, decide_eq_true_eq] at hc'
  obtain ⟨⟨⟨⟨⟨⟨⟨hV, hM⟩, hB⟩, hbl⟩, hrt⟩, hp⟩, hl1⟩, hl2⟩ := hc'
  obtain ⟨f1, f2, rfl, rfl, rfl, hrs, rfl, rfl, rfl⟩ := cvV_iff.1 hV
  obtain ⟨z1, z2, z3, z4, z5, z6, z7, z8, z9, z10⟩ := frsz_eq f1
  obtain ⟨y1, y2, y3, y4, y5, y6, y7, y8, y9, y10⟩ := frsz_eq f2
  have hz' : l.length * l'.length ≤ 8 * 8 := Nat.mul_le_mul z6 y6
  have e : M.fsz k * l.length = (((M.fsz k).toNat * l.length : Nat) : Int) := by rw [Int.natCast_mul, z2]
  have hsz : M.frsz k r l = (((M.fsz k).toNat * l.length : Nat) : Int) := by rw [z1, e]
  have hne : (M.frsz k r l != 0) = true := bne_iff_ne.2 (by omega)
  have hq : M.w64 ((b.length : Int).tdiv (M.frsz k r l)) ≤ 65536 := by
    have h0 : 0 ≤ (b.length : Int).tdiv (M.frsz k r l) := Int.tdiv_nonneg (by omega) (by omega)
    have h1 : (b.length : Int).tdiv (M.frsz k r l) ≤ b.length := by rw [Int.tdiv_eq_ediv_of_nonneg (by omega)]; exact Int.ediv_le_self _ (by omega)
    rw [w64_in (by omega) (by omega)]; omega
  rw [decide_eq_true hl1, decide_eq_true hl2, decide_eq_true (by rw [dflC_length]; omega : (M.dflC l l' l.length).length < 4294967296), decide_eq_true (by omega : rt.length < 4294967296), hV, hne, decide_eq_false (by omega : ¬ M.w64 ((b.length : Int).tdiv (M.frsz k r l)) > 65536), hB, decide_eq_true (by omega : b.length < 4294967296)]
  by_cases hb : (b.length : Int).tmod (M.frsz k r l) = 0
  · obtain ⟨a1, a2, a3, a4, a5, a6, a7, a8, a9⟩ := run_core hc hb
    obtain ⟨g1, g2⟩ := a8 _ a9
    have hE : M.rnE k r l b = 0 := by unfold M.rnE; rw [hb]; rfl
    rw [a2, a4, a5, a6, a1, a7, g1, g2, hE, hb, decide_eq_true a3]
    exact ⟨_, [], 0, rfl, rfl, .refl _⟩
  · have hE : M.rnE k r l b = 4 := by unfold M.rnE; rw [show ((b.length : Int).tmod (M.frsz k r l) == 0) = false by simpa using hb]; rfl
    rw [show ((b.length : Int).tmod (M.frsz k r l) != 0) = true from bne_iff_ne.2 hb, hE]
    exact ⟨_, [], 0, rfl, rfl, .tuple (.cons (.leaf (.nil _)) (.cons (.agg (.cons (.refl _) (.cons (.refl _) (.cons (.nil _) (.cons (.refl _) (.cons (.refl _) (.cons (.nil _) (.cons (.refl _) (.cons (.refl _) (.cons (.nil _) (.cons (.refl _) (.cons (.refl _) (.cons (.refl _) (.cons (.refl _) (.cons (.refl _) (.cons (.refl _) (.cons (.nil _) (.refl _)))))))))))))))))) (.cons (.refl _) (.refl _))))⟩
def m_cvRun : List AV → Option (Bool × AV)
  | [.agg [.int .i64 k, .int .i64 r, l_, .int .i64 k', .int .i64 r', l'_, .int .i64 mi, .int .i64 mo, co_, .int .i64 c, .int .i64 n, .int .i64 d, .int .i64 j, .int .i64 p, .int .i64 f, rt_], b_] => (asVi .i64 l_).bind fun l => (asVi .i64 l'_).bind fun l' => (asVi .i64 co_).bind fun co => (asVi .i32 rt_).bind fun rt => (asVi .u8 b_).bind fun b => some (M.okRn k r l k' r' l' mi mo co c n d j p f rt b, .tuple [.vi .u8 (M.unL (M.rnE k r l b) (M.encB k' (M.outD c n d j f (rt ++ (M.rnX mi mo co k b)) (M.cnt c n d j p f (rt ++ (M.rnX mi mo co k b))).toNat))), .agg [.int .i64 (M.un (M.rnE k r l b) k), .int .i64 (M.un (M.rnE k r l b) r), .vi .i64 (M.unL (M.rnE k r l b) l), .int .i64 (M.un (M.rnE k r l b) k'), .int .i64 (M.un (M.rnE k r l b) r'), .vi .i64 (M.unL (M.rnE k r l b) l'), .int .i64 (M.un (M.rnE k r l b) mi), .int .i64 (M.un (M.rnE k r l b) mo), .vi .i64 (M.unL (M.rnE k r l b) co), .int .i64 (M.un (M.rnE k r l b) c), .int .i64 (M.un (M.rnE k r l b) n), .int .i64 (M.un (M.rnE k r l b) d), .int .i64 (M.un (M.rnE k r l b) j), .int .i64 (M.un (M.rnE k r l b) (p + M.psK n d j f (M.cnt c n d j p f (rt ++ (M.rnX mi mo co k b))))), .int .i64 (M.un (M.rnE k r l b) (M.psF n d j f (M.cnt c n d j p f (rt ++ (M.rnX mi mo co k b))))), .vi .i32 (M.unL (M.rnE k r l b) ((rt ++ (M.rnX mi mo co k b)).drop (M.goneN c n d j f (rt ++ (M.rnX mi mo co k b)) (M.cnt c n d j p f (rt ++ (M.rnX mi mo co k b))))))], .int .i64 (M.rnE k r l b)])
  | _ => none
noncomputable def y17 : Cfg := y16.add 21 m_cvRun
theorem y17_ok : CfgOK y17 := add_ok y16_ok fun xs v h => by
  unfold m_cvRun at h; split at h
  · obtain ⟨l, h_l, h⟩ := Option.bind_eq_some_iff.1 h
    obtain ⟨l', h_l', h⟩ := Option.bind_eq_some_iff.1 h
    obtain ⟨co, h_co, h⟩ := Option.bind_eq_some_iff.1 h
    obtain ⟨rt, h_rt, h⟩ := Option.bind_eq_some_iff.1 h
    obtain ⟨b, h_b, h⟩ := Option.bind_eq_some_iff.1 h
    simp only [Option.some.injEq, Prod.mk.injEq] at h; obtain ⟨h1, rfl⟩ := h
    exact Ev.pure (inls_ok y16_ok 10 3) noCall_ok (e_cvRun _ _ _ _ _ _ _ _ _ _ _ _ _ _ _ _ _ h1) (.cons (.agg (.cons (.refl _) (.cons (.refl _) (.cons (asVi_le h_l) (.cons (.refl _) (.cons (.refl _) (.cons (asVi_le h_l') (.cons (.refl _) (.cons (.refl _) (.cons (asVi_le h_co) (.cons (.refl _) (.cons (.refl _) (.cons (.refl _) (.cons (.refl _) (.cons (.refl _) (.cons (.refl _) (.cons (asVi_le h_rt) (.refl _)))))))))))))))))) (.cons (.leaf (asVi_le h_b)) (.refl _)))
  · cases h

theorem e_cvFin (k r : Int) (l : List Int) (k' r' : Int) (l' : List Int) (mi mo : Int) (co : List Int) (c n d j p f : Int) (rt : List Int) (hc : M.okFn k r l k' r' l' mi mo co c n d j p f rt = true) : Ev (callB (y17.inls 10 3) noCall 10 22 [.agg [.int .i64 k, .int .i64 r, .vi .i64 l, .int .i64 k', .int .i64 r', .vi .i64 l', .int .i64 mi, .int .i64 mo, .vi .i64 co, .int .i64 c, .int .i64 n, .int .i64 d, .int .i64 j, .int .i64 p, .int .i64 f, .vi .i32 rt]] [] 0) (.tuple [.vi .u8 (M.encB k' (M.outD c n d j f rt (M.fcnt c n d j f rt 65536).toNat)), .int .i64 0]) := by
  rw [show callB (y17.inls 10 3) noCall 10 22 [.agg [.int .i64 k, .int .i64 r, .vi .i64 l, .int .i64 k', .int .i64 r', .vi .i64 l', .int .i64 mi, .int .i64 mo, .vi .i64 co, .int .i64 c, .int .i64 n, .int .i64 d, .int .i64 j, .int .i64 p, .int .i64 f, .vi .i32 rt]] [] 0 = (bif decide (l.length < 4294967296) && decide (l'.length < 4294967296) && (decide (co.length < 4294967296) && decide (rt.length < 4294967296)) && true then (bif !M.cvV k r l k' r' l' mi mo co c n d j p f rt then some (.tuple [.nilsl, .int .i64 1], [], 0) else (bif M.okFi c n d j p f rt 65536 && true then some (.tuple [.vi .u8 (M.encL k' (M.outD c n d j f rt (M.fcnt c n d j f rt 65536).toNat)), .int .i64 (M.encE k' (M.outD c n d j f rt (M.fcnt c n d j f rt 65536).toNat))], [], 0) else none)) else none) by kernel_rfl]
  have hc' := hc
  unfold M.okFn at hc'
  simp only [Bool.and_eq_true, decide_eq_true_eq] at hc'
  obtain ⟨⟨⟨⟨⟨hV, hM⟩, hrt⟩, hp⟩, hl1⟩, hl2⟩ := hc'
  obtain ⟨f1, f2, rfl, rfl, rfl, hrs, rfl, rfl, rfl⟩ := cvV_iff.1 hV
  obtain ⟨z1, z2, z3, z4, z5, z6, z7, z8, z9, z10⟩ := frsz_eq f1
  obtain ⟨y1, y2, y3, y4, y5, y6, y7, y8, y9, y10⟩ := frsz_eq f2
  have hz' : l.length * l'.length ≤ 8 * 8 := Nat.mul_le_mul z6 y6
  obtain ⟨hPV, hvr, c1, c2, c3, c4, c5⟩ := rsV_iff (by omega) hrs
  have hFi : M.okFi l'.length (Ph.M.mkN r r') (Ph.M.mkD r r') j p f rt 65536 = true := by
    unfold M.okFi; rw [hrs, decide_eq_true hp, decide_eq_true (by omega : rt.length < 4294967296)]; rfl
  have hcn : (M.fcnt l'.length (Ph.M.mkN r r') (Ph.M.mkD r r') j f rt 65536).toNat ≤ 65536 := by
    unfold M.fcnt
    cases decide (M.left (l'.length : Int) (Ph.M.mkD r r') f rt > 0)
    · exact Nat.zero_le _
    · show (min _ _ : Int).toNat ≤ 65536
      omega
  obtain ⟨g1, g2⟩ := Sp.enc_ok y7 y8 (List.all_eq_true.1 (outD_smp (c := (l'.length : Int)) hPV c5 (M.fcnt l'.length (Ph.M.mkN r r') (Ph.M.mkD r r') j f rt 65536).toNat)) (by rw [outD_len, Int.toNat_natCast]; exact Nat.mul_le_mul hcn y6)
  rw [decide_eq_true hl1, decide_eq_true hl2, decide_eq_true (by rw [dflC_length]; omega : (M.dflC l l' l.length).length < 4294967296), decide_eq_true (by omega : rt.length < 4294967296), hV, hFi, g1, g2]
  exact ⟨_, [], 0, rfl, rfl, .refl _⟩
def m_cvFin : List AV → Option (Bool × AV)
  | [.agg [.int .i64 k, .int .i64 r, l_, .int .i64 k', .int .i64 r', l'_, .int .i64 mi, .int .i64 mo, co_, .int .i64 c, .int .i64 n, .int .i64 d, .int .i64 j, .int .i64 p, .int .i64 f, rt_]] => (asVi .i64 l_).bind fun l => (asVi .i64 l'_).bind fun l' => (asVi .i64 co_).bind fun co => (asVi .i32 rt_).bind fun rt => some (M.okFn k r l k' r' l' mi mo co c n d j p f rt, .tuple [.vi .u8 (M.encB k' (M.outD c n d j f rt (M.fcnt c n d j f rt 65536).toNat)), .int .i64 0])
  | _ => none
noncomputable def y18 : Cfg := y17.add 22 m_cvFin
theorem y18_ok : CfgOK y18 := add_ok y17_ok fun xs v h => by
  unfold m_cvFin at h; split at h
  · obtain ⟨l, h_l, h⟩ := Option.bind_eq_some_iff.1 h
    obtain ⟨l', h_l', h⟩ := Option.bind_eq_some_iff.1 h
    obtain ⟨co, h_co, h⟩ := Option.bind_eq_some_iff.1 h
    obtain ⟨rt, h_rt, h⟩ := Option.bind_eq_some_iff.1 h
    simp only [Option.some.injEq, Prod.mk.injEq] at h; obtain ⟨h1, rfl⟩ := h
    exact Ev.pure (inls_ok y17_ok 10 3) noCall_ok (e_cvFin _ _ _ _ _ _ _ _ _ _ _ _ _ _ _ _ h1) (.cons (.agg (.cons (.refl _) (.cons (.refl _) (.cons (asVi_le h_l) (.cons (.refl _) (.cons (.refl _) (.cons (asVi_le h_l') (.cons (.refl _) (.cons (.refl _) (.cons (asVi_le h_co) (.cons (.refl _) (.cons (.refl _) (.cons (.refl _) (.cons (.refl _) (.cons (.refl _) (.cons (.refl _) (.cons (asVi_le h_rt) (.refl _)))))))))))))))))) (.refl _))
  · cases h

end Go.Proofs.Ytooiechjanmdjaa
