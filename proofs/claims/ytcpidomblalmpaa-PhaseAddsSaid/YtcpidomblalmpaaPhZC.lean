/- PhaseAdds holds for every input: advancing twice is advancing by the sum, and retuning moves nothing. -/
import Derived.Test.YtcpidomblalmpaaPhF
namespace Go.Proofs.Ytcpidomblalmpaa
open Am
open Go.ChangeShapes Go.WideShapes Go.ChangeAt Go.RowKit
set_option maxRecDepth 100000
set_option linter.unusedVariables false

theorem far_split (p : M.Ph) (h : PV p) (n m : Int) : posOf ⟨p.num, p.den, p.adj, posOf p n, fracOf p n⟩ m = posOf p (n + m) ∧ fracOf ⟨p.num, p.den, p.adj, posOf p n, fracOf p n⟩ m = fracOf p (n + m) := by
  obtain ⟨⟨a1, a2, a3⟩, _⟩ := valid_iff.1 h
  have hz : p.den * 65536 ≠ 0 := by omega
  have e : far p (n + m) = far ⟨p.num, p.den, p.adj, posOf p n, fracOf p n⟩ m + far p n / (p.den * 65536) * (p.den * 65536) := by
    unfold far fracOf
    simp only
    have hd := Int.emod_add_mul_ediv (far p n) (p.den * 65536)
    unfold far at hd
    rw [Int.add_mul, Int.add_mul, Int.mul_comm ((p.frac + n * p.num * (65536 + p.adj)) / (p.den * 65536))]
    unfold far
    omega
  unfold posOf fracOf
  rw [e, Int.add_mul_ediv_right _ _ hz, Int.add_mul_emod_self_right]
  unfold posOf fracOf
  simp only
  exact ⟨by omega, trivial⟩

def eqP (p q : M.Ph) : Bool := (p.num == q.num && (p.den == q.den && true)) && (p.adj == q.adj && (p.pos == q.pos && (p.frac == q.frac && true)))
theorem eqP_self (p : M.Ph) : eqP p p = true := by simp [eqP]

/-- the way of a phase that stands early stays within the bounds -/
theorem pos_le {p : M.Ph} (h : PV p) (hp : p.pos ≤ 60000000) {n : Int} (hn : 0 ≤ n) (hn2 : n ≤ 65536) : posOf p n ≤ 60000000 + 3600000000000000 / 65536 := by
  obtain ⟨f1, f2⟩ := far_le h hn hn2
  obtain ⟨⟨a1, a2, a3⟩, _⟩ := valid_iff.1 h
  have hQ : 0 ≤ far p n / (p.den * 65536) := Int.ediv_nonneg f1 (by omega)
  have hm := Int.ediv_mul_le (far p n) (show p.den * 65536 ≠ 0 by omega)
  have hk : far p n / (p.den * 65536) * 65536 ≤ far p n / (p.den * 65536) * (p.den * 65536) := Int.mul_le_mul_of_nonneg_left (by omega) hQ
  unfold posOf
  omega

theorem e5 (b : List Int) (a c t : Int) (hb : M.byt b = true) (ha : 0 ≤ a) (ha2 : a ≤ 65535) (hc : 0 ≤ c) (hc2 : c ≤ 65535) (ht : -32768 ≤ t) (ht2 : t ≤ 32767) :
    callB d28 noCall 0 5 [.vi .u8 b, .int .u16 a, .int .u16 c, .int .i16 t] [] 0 = some (.bool true, [], 0) := by
  refine (show callB d28 noCall 0 5 [.vi .u8 b, .int .u16 a, .int .u16 c, .int .i16 t] [] 0 =
    (bif M.byt b && true then
      bif M.aE (M.made b) (M.w64 (a.tmod 2000)) == 0 then
        bif M.aE (M.aP (M.made b) (M.w64 (a.tmod 2000))) (M.w64 (c.tmod 2000)) == 0 then
          bif M.aE (M.made b) (M.w64 (M.w64 (a.tmod 2000) + M.w64 (c.tmod 2000))) == 0 then
            bif eqP (M.aP (M.aP (M.made b) (M.w64 (a.tmod 2000))) (M.w64 (c.tmod 2000))) (M.aP (M.made b) (M.w64 (M.w64 (a.tmod 2000) + M.w64 (c.tmod 2000)))) then
              bif M.rtE (M.made b).num (M.made b).den (M.made b).adj (M.made b).pos (M.made b).frac ((M.w64 t).tmod 4096) == 0 then
                bif (M.rtP (M.made b) ((M.w64 t).tmod 4096)).pos == (M.made b).pos then
                  bif (M.rtP (M.made b) ((M.w64 t).tmod 4096)).frac == (M.made b).frac then
                    some (.bool ((M.rtP (M.made b) ((M.w64 t).tmod 4096)).num == (M.made b).num && ((M.rtP (M.made b) ((M.w64 t).tmod 4096)).den == (M.made b).den && true)), [], 0)
                  else some (.bool false, [], 0)
                else some (.bool false, [], 0)
              else some (.bool false, [], 0)
            else some (.bool false, [], 0)
          else some (.bool false, [], 0)
        else some (.bool false, [], 0)
      else some (.bool false, [], 0)
    else none) by kernel_rfl).trans ?_
  obtain ⟨hv, hpos⟩ := made_ok (byt_take 300 hb)
  have hm : M.phase (b.take 300) = M.made b := rfl
  rw [hm] at hv hpos
  have hw1 : M.w64 (a.tmod 2000) = a.tmod 2000 := by
    have := Int.tmod_nonneg 2000 ha; have := Int.tmod_lt_of_pos a (show (0 : Int) < 2000 by omega); exact w64_in (by omega) (by omega)
  have hw2 : M.w64 (c.tmod 2000) = c.tmod 2000 := by
    have := Int.tmod_nonneg 2000 hc; have := Int.tmod_lt_of_pos c (show (0 : Int) < 2000 by omega); exact w64_in (by omega) (by omega)
  have hn1 := Int.tmod_nonneg 2000 ha
  have hl1 := Int.tmod_lt_of_pos a (show (0 : Int) < 2000 by omega)
  have hn2 := Int.tmod_nonneg 2000 hc
  have hl2 := Int.tmod_lt_of_pos c (show (0 : Int) < 2000 by omega)
  have hw3 : M.w64 t = t := w64_in (by omega) (by omega)
  have ht1 : -4096 ≤ t.tmod 4096 ∧ t.tmod 4096 ≤ 4096 := by
    have h1 := Int.tmod_lt_of_pos t (show (0 : Int) < 4096 by omega)
    have h2 := Int.lt_tmod_of_pos t (show (0 : Int) < 4096 by omega)
    omega
  rw [hw1, hw2, hw3]
  generalize a.tmod 2000 = n at hn1 hl1
  generalize c.tmod 2000 = m at hn2 hl2
  generalize t.tmod 4096 = u at ht1
  rw [w64_in (n := n + m) (by omega) (by omega)]
  obtain ⟨e1, p1, _, _⟩ := adv_ok hv hn1 (by omega) (by have := pos_le hv hpos hn1 (by omega); omega)
  have hv1 := hv.adv hn1 (by omega) (by have := pos_le hv hpos hn1 (by omega); omega)
  have hsum := pos_le hv hpos (n := n + m) (by omega) (by omega)
  obtain ⟨s1, s2⟩ := far_split (M.made b) hv n m
  obtain ⟨e2, p2, _, _⟩ := adv_ok hv1 hn2 (by omega) (by rw [s1]; omega)
  obtain ⟨e3', p3, _, _⟩ := adv_ok hv (n := n + m) (by omega) (by omega) (by omega)
  obtain ⟨r1, r2⟩ := rtP_ok hv ht1.1 ht1.2
  rw [s1, s2] at p2
  rw [hb, e1, p1, e2, e3', p2, p3, r1, r2, eqP_self]
  simp

open Go.ChangeShapes in
theorem adds_lifted (os : Os) (started : os.Started) (H : Type) (enc : TypeId × Value → H) :
    ReturnsInHanded {} Try.checked os 5 .any (Rows.phaseAddsSpec.pre6 enc Try.prog Try.f5 Rows.phaseAddsRow.domain false) (Rows.phaseAddsSpec.post enc Try.prog Try.f5 false true false false) := by
  refine returnsInHanded_of_change (C := Try.checked) own started (by kernel_rfl) Try.func5
    (ChangeSpec.witness6 (enc := enc) (C := Try.checked) false ⟨#[], #[.slice none 0 0, .int .u16 0, .int .u16 0, .int .i16 0], []⟩ 8 (by kernel_rfl) (by kernel_rfl) (by kernel_rfl) (by kernel_rfl)) ?_
  intro W base args ds gs before hval0 hW hcnd _
  have hval : ∀ (j : Nat) t v, Try.f5.params[j]? = some t → args[j]? = some v → Value.okWide Try.prog W .any base t v := hval0
  have hW' := hW
  obtain ⟨p, q, hA0, hV, rfl, hfz, hnd⟩ := hW
  have hA : DataW.TrodAll enc Try.prog W 0 (fun _ => true) true Try.f5.params.toList args.toList ds p := hA0
  rw [Try.params5] at hA hval
  obtain ⟨v0, v1, v2, v3, d0, d1, d2, d3, p0, p1, p2, p3, rfl, rfl, rfl, h0, h1, h2, h3⟩ := trodAll_four hA
  obtain ⟨rfl, rfl⟩ := trodVars_none hV
  obtain ⟨a, rfl, rfl, rfl, wa⟩ := open_int Try.underlying40 (hval 1 40 v1 rfl rfl) h1
  obtain ⟨c, rfl, rfl, rfl, wc⟩ := open_int Try.underlying40 (hval 2 40 v2 rfl rfl) h2
  obtain ⟨t, rfl, rfl, rfl, wt⟩ := open_int Try.underlying41 (hval 3 41 v3 rfl rfl) h3
  obtain ⟨a0, len, cap, rfl⟩ := okWide_slice Try.underlying22 (hval 0 22 v0 rfl rfl)
  obtain ⟨b, hb, wb⟩ := open_row' Try.underlying22 Try.underlying5 (by kernel_rfl) ⟨_, rfl, rfl⟩ h0
  simp only [Lit.wf, IntKind.min, IntKind.max, IntKind.signed, IntKind.bits, Bool.and_eq_true, decide_eq_true_eq] at wa wc wt
  have ha : 0 ≤ a ∧ a ≤ 65535 := by simpa using wa
  have hc : 0 ≤ c ∧ c ≤ 65535 := by simpa using wc
  have ht : -32768 ≤ t ∧ t ≤ 32767 := by simpa using wt
  have hcalls := pure_of_callB d28_ok noCall_ok (e5 b a c t (byt_of_wf wb) ha.1 ha.2 hc.1 hc.2 ht.1 ht.2) rfl (fun b _ => b < W.heap.size) W [.slice a0 len cap, .int .u16 a, .int .u16 c, .int .i16 t] (fun b _ h => h)
    (.cons hb (.cons (.int _ _) (.cons (.int _ _) (.cons (.int _ _) .nil))))
  refine hcalls.mono fun e W' ⟨V, he, hs, hbl, hos, hout, hV⟩ => ?_
  cases hV
  exact ⟨_, he, law_post laidOut hW' rfl rfl rfl rfl (by kernel_rfl) Try.underlying4 (by rw [Try.params5]; intro t ht; simp at ht; rcases ht with rfl | rfl | rfl <;> exact ⟨by kernel_rfl, by decide +kernel⟩) hos hout hbl⟩

theorem adds_holds : Rows.PhaseAddsSaid :=
  OpenClaim.holds_of_wide 5 Try.f5 rfl rfl rfl rfl rfl rfl rfl ⟨rfl, rfl, rfl, rfl, rfl⟩ rfl rfl rfl rfl rfl (by kernel_rfl) Try.func5 (by kernel_rfl)
    (of_decide_eq_true (by kernel_rfl)) (by unfold Func.isWrapper; first | (rw [if_pos (by decide +kernel)]; kernel_rfl) | (rw [if_neg (by decide +kernel)]; exact ⟨rfl, rfl⟩))
    (fun os started H enc _ => adds_lifted os started H enc)
end Go.Proofs.Ytcpidomblalmpaa
