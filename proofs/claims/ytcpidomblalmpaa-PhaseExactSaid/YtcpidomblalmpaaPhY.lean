/- The law of exactness returns true for every input. -/
import Derived.Test.YtcpidomblalmpaaPhX
import Derived.Test.YtcpidomblalmpaaPhP
namespace Go.Proofs.Ytcpidomblalmpaa
open Am
set_option maxRecDepth 100000
set_option linter.unusedVariables false

theorem exact_step {p : M.Ph} (h : PV p) (ha : p.adj = 0) : posOf p p.den = p.pos + p.num ∧ fracOf p p.den = p.frac := by
  obtain ⟨⟨a1, a2, a3⟩, ⟨b1, b2⟩, ⟨c1, c2⟩, ⟨d1, d2⟩, e1, e2⟩ := valid_iff.1 h
  have hf : far p p.den = p.frac + p.num * (p.den * 65536) := by
    unfold far
    rw [ha, Int.add_zero, Int.mul_comm p.den p.num, Int.mul_assoc]
  have hz : p.den * 65536 ≠ 0 := by omega
  unfold posOf fracOf
  rw [hf, Int.add_mul_ediv_right _ _ hz, Int.add_mul_emod_self_right, Int.ediv_eq_zero_of_lt e1 e2, Int.emod_eq_of_lt e1 e2]
  exact ⟨by omega, rfl⟩

theorem run_ok : ∀ (n : Nat) (p : M.Ph), PV p → p.adj = 0 → p.den ≤ 2000 → p.pos + n * 768000 ≤ 1000000000000 →
    M.runOK p.den n p = true ∧ M.run p.den n p = ⟨p.num, p.den, 0, p.pos + n * p.num, p.frac⟩
  | 0, p, h, ha, hd, hp => by
    refine ⟨rfl, ?_⟩
    unfold M.run
    cases p
    simp only at ha
    subst ha
    simp
  | n + 1, p, h, ha, hd, hp => by
    obtain ⟨⟨a1, a2, a3⟩, ⟨b1, b2⟩, ⟨c1, c2⟩, ⟨d1, d2⟩, e1, e2⟩ := valid_iff.1 h
    obtain ⟨x1, x2⟩ := exact_step h ha
    obtain ⟨hE, hP, _, _⟩ := adv_ok h (n := p.den) (by omega) (by omega) (by rw [x1]; omega)
    have hv := h.adv (n := p.den) (by omega) (by omega) (by rw [x1]; omega)
    rw [x1, x2] at hP hv
    obtain ⟨r1, r2⟩ := run_ok n ⟨p.num, p.den, p.adj, p.pos + p.num, p.frac⟩ hv ha hd (by simp only; push_cast at hp; omega)
    unfold M.runOK M.run
    rw [hE, hP]
    refine ⟨by simpa using r1, ?_⟩
    rw [r2]
    congr 1
    push_cast
    rw [Int.add_mul]
    omega

theorem e3 (b : List Int) (k : Int) (hb : M.byt b = true) (hk : 0 ≤ k) (hk2 : k ≤ 255) : callB c28 noCall 0 3 [.vi .u8 b, .int .u8 k] [] 0 = some (.bool true, [], 0) := by
  refine (show callB c28 noCall 0 3 [.vi .u8 b, .int .u8 k] [] 0 = (bif M.byt b && true then bif decide ((M.made b).den > 2000) then some (.bool true, [], 0) else
    bif decide (0 ≤ k) && M.runOK (M.made b).den (k.tmod 5).toNat ⟨(M.made b).num, (M.made b).den, 0, (M.made b).pos, (M.made b).frac⟩ then
      bif (M.run (M.made b).den (k.tmod 5).toNat ⟨(M.made b).num, (M.made b).den, 0, (M.made b).pos, (M.made b).frac⟩).frac == (M.made b).frac then
        some (.bool ((M.run (M.made b).den (k.tmod 5).toNat ⟨(M.made b).num, (M.made b).den, 0, (M.made b).pos, (M.made b).frac⟩).pos == M.w64 ((M.made b).pos + M.w64 (M.w64 (k.tmod 5) * (M.made b).num))), [], 0)
      else some (.bool false, [], 0) else none else none) by kernel_rfl).trans ?_
  obtain ⟨hv, hpos⟩ := made_ok (byt_take 300 hb)
  have hm : M.phase (b.take 300) = M.made b := rfl
  rw [hm] at hv hpos
  rw [hb]
  simp only [Bool.and_true, cond_true]
  cases hd : decide ((M.made b).den > 2000) with
  | true => rfl
  | false =>
    have hd' : (M.made b).den ≤ 2000 := by simpa using hd
    have h5 : k.tmod 5 < 5 := Int.tmod_lt_of_pos _ (by omega)
    have h0 : 0 ≤ k.tmod 5 := Int.tmod_nonneg _ hk
    have hv0 : PV ⟨(M.made b).num, (M.made b).den, 0, (M.made b).pos, (M.made b).frac⟩ := hv.tune (by omega) (by omega)
    obtain ⟨r1, r2⟩ := run_ok (k.tmod 5).toNat ⟨(M.made b).num, (M.made b).den, 0, (M.made b).pos, (M.made b).frac⟩ hv0 rfl hd' (by simp only; omega)
    simp only at r1 r2
    have hn : ((k.tmod 5).toNat : Int) = k.tmod 5 := Int.toNat_of_nonneg h0
    obtain ⟨⟨a1, a2, a3⟩, ⟨b1, b2⟩, ⟨c1, c2⟩, ⟨d1, d2⟩, e1, e2⟩ := valid_iff.1 hv
    have hw1 : M.w64 (k.tmod 5) = k.tmod 5 := w64_in (by omega) (by omega)
    have hmul : 0 ≤ k.tmod 5 * (M.made b).num ∧ k.tmod 5 * (M.made b).num ≤ 5 * 768000 :=
      ⟨Int.mul_nonneg h0 (by omega), Int.le_trans (Int.mul_le_mul_of_nonneg_right (by omega : k.tmod 5 ≤ 5) (by omega)) (by omega)⟩
    rw [r1, r2, decide_eq_true hk, hw1, w64_in (n := k.tmod 5 * (M.made b).num) (by omega) (by omega), w64_in (by omega) (by omega), hn]
    simp
end Go.Proofs.Ytcpidomblalmpaa
