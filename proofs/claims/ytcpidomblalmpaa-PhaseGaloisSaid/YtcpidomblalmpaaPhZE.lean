/- PhaseGalois holds for every input: n frames can be made exactly if what they need is there. -/
import Derived.Test.YtcpidomblalmpaaPhJ
namespace Go.Proofs.Ytcpidomblalmpaa
open Am
open Go.ChangeShapes Go.WideShapes Go.ChangeAt Go.RowKit
set_option maxRecDepth 100000
set_option linter.unusedVariables false

theorem need_nonneg {p : M.Ph} (h : PV p) {n : Int} (hn : 0 ≤ n) (hn2 : n ≤ 65536) : 0 ≤ needOf p n := by
  have := need_mono h n.toNat (n := 0) (by omega) (by omega)
  have e : (0 : Int) + (n.toNat : Int) = n := by omega
  rw [e] at this
  have h0 : needOf p 0 = 0 := rfl
  omega

theorem galois {p : M.Ph} (h : PV p) {lim n : Int} (hl : 0 ≤ lim) (hn : 0 ≤ n) (hn2 : n ≤ 65536) (N : Nat) (hN : 65536 < N) :
    decide (needOf p n ≤ lim) = decide (n ≤ M.srch (over p.num p.den p.adj p.frac lim) N 0 65536) := by
  generalize hr : M.srch (over p.num p.den p.adj p.frac lim) N 0 65536 = r
  obtain ⟨a, b, c, d⟩ := count_spec h lim N hN hr
  by_cases hle : n ≤ r
  · rw [decide_eq_true hle]
    refine decide_eq_true ?_
    have x := need_mono h (r - n).toNat (n := n) hn (by omega)
    have e : n + ((r - n).toNat : Int) = r := by omega
    rw [e] at x
    by_cases h0 : 0 < r
    · have := d h0; omega
    · have e0 : n = 0 := by omega
      subst e0
      have h0 : needOf p 0 = 0 := rfl
      omega
  · rw [decide_eq_false hle]
    refine decide_eq_false ?_
    have x := need_mono h (n - (r + 1)).toNat (n := r + 1) (by omega) (by omega)
    have e : r + 1 + ((n - (r + 1)).toNat : Int) = n := by omega
    rw [e] at x
    have := c (by omega)
    omega

theorem cnt_of {p : M.Ph} (h : PV p) {lim : Int} (h1 : 0 ≤ lim) (h2 : lim ≤ 1099511627776) : M.mkErr p.num p.den p.adj p.pos p.frac lim = 0 := by
  unfold M.mkErr; rw [h, decide_eq_false (by omega), decide_eq_false (by omega)]; rfl

theorem cnt_val (N : Nat) (p : M.Ph) (lim : Int) (he : M.mkErr p.num p.den p.adj p.pos p.frac lim = 0) :
    (bif M.mkErr p.num p.den p.adj p.pos p.frac lim != 0 then (0 : Int) else M.srch (over p.num p.den p.adj p.frac lim) N 0 65536) = M.srch (over p.num p.den p.adj p.frac lim) N 0 65536 := by
  have : (M.mkErr p.num p.den p.adj p.pos p.frac lim != 0) = false := by simp [he]
  rw [this, cond_false]

theorem galois_cnt {p : M.Ph} (h : PV p) {lim n : Int} (h1 : 0 ≤ lim) (h2 : lim ≤ 1099511627776) (hn : 0 ≤ n) (hn2 : n ≤ 65536) :
    decide (needOf p n ≤ lim) = decide (n ≤ M.mkCnt p.num p.den p.adj p.pos p.frac lim) := by
  have hc : M.mkCnt p.num p.den p.adj p.pos p.frac lim = M.srch (over p.num p.den p.adj p.frac lim) 65537 0 65536 := cnt_val 65537 p lim (cnt_of h h1 h2)
  rw [hc]
  exact galois h h1 hn hn2 65537 (by decide)

theorem nd_ok {p : M.Ph} (h : PV p) {n : Int} (hn : 0 ≤ n) (hn2 : n ≤ 65536) : M.ndV p.num p.den p.adj p.pos p.frac n = needOf p n := by
  unfold M.ndV
  rw [chk_z (chk_ok h hn hn2), cond_false, need_ok h hn hn2]

theorem e7 (b : List Int) (n m : Int) (hb : M.byt b = true) (hn : 0 ≤ n) (hn2 : n ≤ 65535) (hm : 0 ≤ m) (hm2 : m ≤ 65535) : callB d37 noCall 10 7 [.vi .u8 b, .int .u16 n, .int .u16 m] [] 0 = some (.bool true, [], 0) := by
  refine (show callB d37 noCall 10 7 [.vi .u8 b, .int .u16 n, .int .u16 m] [] 0 =
    (bif M.byt b && true then
      bif M.chk (M.made b).num (M.made b).den (M.made b).adj (M.made b).pos (M.made b).frac (M.w64 (n.tmod 3000)) == 0 then
        bif M.mkErr (M.made b).num (M.made b).den (M.made b).adj (M.made b).pos (M.made b).frac (M.w64 m) == 0 then
          bif M.chk (M.made b).num (M.made b).den (M.made b).adj (M.made b).pos (M.made b).frac (M.w64 (M.w64 (n.tmod 3000) + 1)) == 0 then
            bif decide (M.ndV (M.made b).num (M.made b).den (M.made b).adj (M.made b).pos (M.made b).frac (M.w64 (n.tmod 3000)) ≤ M.w64 m) == decide (M.w64 (n.tmod 3000) ≤ M.mkCnt (M.made b).num (M.made b).den (M.made b).adj (M.made b).pos (M.made b).frac (M.w64 m)) then
              bif decide (M.ndV (M.made b).num (M.made b).den (M.made b).adj (M.made b).pos (M.made b).frac (M.w64 (M.w64 (n.tmod 3000) + 1)) ≥ M.ndV (M.made b).num (M.made b).den (M.made b).adj (M.made b).pos (M.made b).frac (M.w64 (n.tmod 3000))) then
                some (.bool (decide (M.ndV (M.made b).num (M.made b).den (M.made b).adj (M.made b).pos (M.made b).frac (M.w64 (n.tmod 3000)) ≥ 0)), [], 0)
              else some (.bool false, [], 0)
            else some (.bool false, [], 0)
          else some (.bool false, [], 0)
        else some (.bool false, [], 0)
      else some (.bool false, [], 0)
    else none) by kernel_rfl).trans ?_
  obtain ⟨hv, hpos⟩ := made_ok (byt_take 300 hb)
  have hmm : M.phase (b.take 300) = M.made b := rfl
  rw [hmm] at hv hpos
  have hn1 := Int.tmod_nonneg 3000 hn
  have hl1 := Int.tmod_lt_of_pos n (show (0 : Int) < 3000 by omega)
  rw [w64_in (n := n.tmod 3000) (by omega) (by omega), w64_in (n := m) (by omega) (by omega)]
  generalize n.tmod 3000 = k at hn1 hl1
  rw [w64_in (n := k + 1) (by omega) (by omega), hb, chk_ok hv hn1 (by omega), chk_ok hv (n := k + 1) (by omega) (by omega), cnt_of hv hm (by omega), nd_ok hv hn1 (by omega), nd_ok hv (n := k + 1) (by omega) (by omega),
    galois_cnt hv hm (by omega) hn1 (by omega), decide_eq_true (show needOf (M.made b) (k + 1) ≥ needOf (M.made b) k from need_step hv hn1 (by omega)), decide_eq_true (show needOf (M.made b) k ≥ 0 from need_nonneg hv hn1 (by omega))]
  simp only [beq_self_eq_true, Bool.and_true, cond_true]

theorem galois_lifted (os : Os) (started : os.Started) (H : Type) (enc : TypeId × Value → H) :
    ReturnsInHanded {} Try.checked os 7 .any (Rows.phaseGaloisSpec.pre6 enc Try.prog Try.f7 Rows.phaseGaloisRow.domain false) (Rows.phaseGaloisSpec.post enc Try.prog Try.f7 false true false false) := by
  refine returnsInHanded_of_change (C := Try.checked) own started (by kernel_rfl) Try.func7
    (ChangeSpec.witness6 (enc := enc) (C := Try.checked) false ⟨#[], #[.slice none 0 0, .int .u16 0, .int .u16 0], []⟩ 8 (by kernel_rfl) (by kernel_rfl) (by kernel_rfl) (by kernel_rfl)) ?_
  intro W base args ds gs before hval0 hW hcnd _
  have hval : ∀ (j : Nat) t v, Try.f7.params[j]? = some t → args[j]? = some v → Value.okWide Try.prog W .any base t v := hval0
  have hW' := hW
  obtain ⟨p, q, hA0, hV, rfl, hfz, hnd⟩ := hW
  have hA : DataW.TrodAll enc Try.prog W 0 (fun _ => true) true Try.f7.params.toList args.toList ds p := hA0
  rw [Try.params7] at hA hval
  obtain ⟨v0, v1, v2, d0, d1, d2, p0, p1, p2, rfl, rfl, rfl, h0, h1, h2⟩ := trodAll_three hA
  obtain ⟨rfl, rfl⟩ := trodVars_none hV
  obtain ⟨a, rfl, rfl, rfl, wa⟩ := open_int Try.underlying40 (hval 1 40 v1 rfl rfl) h1
  obtain ⟨c, rfl, rfl, rfl, wc⟩ := open_int Try.underlying40 (hval 2 40 v2 rfl rfl) h2
  obtain ⟨a0, len, cap, rfl⟩ := okWide_slice Try.underlying22 (hval 0 22 v0 rfl rfl)
  obtain ⟨b, hb, wb⟩ := open_row' Try.underlying22 Try.underlying5 (by kernel_rfl) ⟨_, rfl, rfl⟩ h0
  simp only [Lit.wf, IntKind.min, IntKind.max, IntKind.signed, IntKind.bits, Bool.and_eq_true, decide_eq_true_eq] at wa wc
  have ha : 0 ≤ a ∧ a ≤ 65535 := by simpa using wa
  have hc : 0 ≤ c ∧ c ≤ 65535 := by simpa using wc
  have hcalls := pure_of_callB d37_ok noCall_ok (e7 b a c (byt_of_wf wb) ha.1 ha.2 hc.1 hc.2) rfl (fun b _ => b < W.heap.size) W [.slice a0 len cap, .int .u16 a, .int .u16 c] (fun b _ h => h)
    (.cons hb (.cons (.int _ _) (.cons (.int _ _) .nil)))
  refine hcalls.mono fun e W' ⟨V, he, hs, hbl, hos, hout, hV⟩ => ?_
  cases hV
  exact ⟨_, he, law_post laidOut hW' rfl rfl rfl rfl (by kernel_rfl) Try.underlying4 (by rw [Try.params7]; intro t ht; simp at ht; rcases ht with rfl | rfl <;> exact ⟨by kernel_rfl, by decide +kernel⟩) hos hout hbl⟩

theorem galois_holds : Rows.PhaseGaloisSaid :=
  OpenClaim.holds_of_wide 7 Try.f7 rfl rfl rfl rfl rfl rfl rfl ⟨rfl, rfl, rfl, rfl, rfl⟩ rfl rfl rfl rfl rfl (by kernel_rfl) Try.func7 (by kernel_rfl)
    (of_decide_eq_true (by kernel_rfl)) (by unfold Func.isWrapper; first | (rw [if_pos (by decide +kernel)]; kernel_rfl) | (rw [if_neg (by decide +kernel)]; exact ⟨rfl, rfl⟩))
    (fun os started H enc _ => galois_lifted os started H enc)
end Go.Proofs.Ytcpidomblalmpaa
