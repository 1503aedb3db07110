/- PhaseTunes holds for every input: a greater adjustment never needs fewer input frames nor makes more output frames, and the frames passed over are those of the adjusted ratio, but for less than one. -/
import Derived.Test.YtcpidomblalmpaaPhK
namespace Go.Proofs.Ytcpidomblalmpaa
open Am
open Go.ChangeShapes Go.WideShapes Go.ChangeAt Go.RowKit
set_option maxRecDepth 100000
set_option linter.unusedVariables false

namespace M
def tLo0 (x y : Int) : Int := (w64 (if y < x then y else x)).tmod 4096
def tHi0 (x y : Int) : Int := (w64 (if y > x then y else x)).tmod 4096
def tLo (x y : Int) : Int := if tHi0 x y < tLo0 x y then tHi0 x y else tLo0 x y
def tHi (x y : Int) : Int := if tHi0 x y > tLo0 x y then tHi0 x y else tLo0 x y
end M

theorem tLo_range {x y : Int} (hx : -32768 ≤ x) (hx2 : x ≤ 32767) (hy : -32768 ≤ y) (hy2 : y ≤ 32767) : -4096 ≤ M.tLo x y ∧ M.tLo x y ≤ M.tHi x y ∧ M.tHi x y ≤ 4096 := by
  have r : ∀ z : Int, -4096 ≤ z.tmod 4096 ∧ z.tmod 4096 ≤ 4096 := fun z => by
    have h1 := Int.tmod_lt_of_pos z (show (0 : Int) < 4096 by omega)
    have h2 := Int.tmod_lt_of_pos (-z) (show (0 : Int) < 4096 by omega)
    rw [Int.neg_tmod] at h2
    omega
  have a := r (M.w64 (if y < x then y else x))
  have b := r (M.w64 (if y > x then y else x))
  have a' : -4096 ≤ M.tLo0 x y ∧ M.tLo0 x y ≤ 4096 := a
  have b' : -4096 ≤ M.tHi0 x y ∧ M.tHi0 x y ≤ 4096 := b
  unfold M.tLo M.tHi
  split <;> split <;> omega

theorem far_tune {p : M.Ph} (h : PV p) {n : Int} (hn : 0 ≤ n) {a b : Int} (hab : a ≤ b) : far ⟨p.num, p.den, a, p.pos, p.frac⟩ n ≤ far ⟨p.num, p.den, b, p.pos, p.frac⟩ n := by
  obtain ⟨⟨a1, _⟩, _⟩ := valid_iff.1 h
  unfold far
  simp only
  have h0 : 0 ≤ n * p.num := Int.mul_nonneg hn (by omega)
  have := Int.mul_le_mul_of_nonneg_left (show 65536 + a ≤ 65536 + b by omega) h0
  omega

theorem need_tune {p : M.Ph} (h : PV p) {n : Int} (hn : 0 ≤ n) {a b : Int} (hab : a ≤ b) : needOf ⟨p.num, p.den, a, p.pos, p.frac⟩ n ≤ needOf ⟨p.num, p.den, b, p.pos, p.frac⟩ n := by
  obtain ⟨⟨a1, a2, a3⟩, _⟩ := valid_iff.1 h
  unfold needOf
  by_cases h0 : n = 0
  · rw [if_pos h0, if_pos h0]; omega
  · rw [if_neg h0, if_neg h0]
    have m1 := Int.ediv_le_ediv (show 0 < p.den * 65536 by omega) (far_tune h (n := n - 1) (by omega) hab)
    have m2 := Int.ediv_le_ediv (show 0 < p.den * 65536 by omega) (far_tune h hn hab)
    simp only [mx_def]
    split <;> split <;> omega

theorem cnt_val' (N : Nat) (p : M.Ph) (lim : Int) (he : M.mkErr p.num p.den p.adj p.pos p.frac lim = 0) :
    (bif M.mkErr p.num p.den p.adj p.pos p.frac lim != 0 then (0 : Int) else M.srch (over p.num p.den p.adj p.frac lim) N 0 65536) = M.srch (over p.num p.den p.adj p.frac lim) N 0 65536 := by
  have : (M.mkErr p.num p.den p.adj p.pos p.frac lim != 0) = false := by simp [he]
  rw [this, cond_false]

theorem srch_tune {p : M.Ph} {a b : Int} (ha : PV ⟨p.num, p.den, a, p.pos, p.frac⟩) (hb : PV ⟨p.num, p.den, b, p.pos, p.frac⟩) (hab : a ≤ b) (lim : Int) (N : Nat) (hN : 65536 < N) :
    M.srch (over p.num p.den b p.frac lim) N 0 65536 ≤ M.srch (over p.num p.den a p.frac lim) N 0 65536 := by
  generalize hr : M.srch (over p.num p.den a p.frac lim) N 0 65536 = r
  generalize hs : M.srch (over p.num p.den b p.frac lim) N 0 65536 = s
  obtain ⟨a1, a2, a3, a4⟩ := count_spec ha lim N hN hr
  obtain ⟨b1, b2, b3, b4⟩ := count_spec hb lim N hN hs
  by_cases h : s ≤ r
  · exact h
  · have x1 := a3 (by omega)
    have x2 := b4 (by omega)
    have x3 := need_mono ha (s - (r + 1)).toNat (n := r + 1) (by omega) (by omega)
    have e : r + 1 + ((s - (r + 1)).toNat : Int) = s := by omega
    rw [e] at x3
    have x4 := need_tune ha (n := s) (by omega) hab
    simp only at x4
    omega

theorem cnt_tune {p : M.Ph} {a b : Int} (ha : PV ⟨p.num, p.den, a, p.pos, p.frac⟩) (hb : PV ⟨p.num, p.den, b, p.pos, p.frac⟩) (hab : a ≤ b) {lim : Int} (h1 : 0 ≤ lim) (h2 : lim ≤ 1099511627776) :
    M.mkCnt p.num p.den b p.pos p.frac lim ≤ M.mkCnt p.num p.den a p.pos p.frac lim := by
  have x : M.mkCnt p.num p.den a p.pos p.frac lim = M.srch (over p.num p.den a p.frac lim) 65537 0 65536 := cnt_val' 65537 ⟨p.num, p.den, a, p.pos, p.frac⟩ lim (cnt_of' ha h1 h2)
  have y : M.mkCnt p.num p.den b p.pos p.frac lim = M.srch (over p.num p.den b p.frac lim) 65537 0 65536 := cnt_val' 65537 ⟨p.num, p.den, b, p.pos, p.frac⟩ lim (cnt_of' hb h1 h2)
  rw [x, y]
  exact srch_tune ha hb hab lim 65537 (by decide)

theorem passed_ok {p : M.Ph} (h : PV p) {n : Int} (hn : 0 ≤ n) (hn2 : n ≤ 2000) :
    M.w64 (M.w64 (n * p.num) * M.w64 (65536 + p.adj)) = M.w64 (M.w64 (M.w64 (M.w64 (M.w64 (posOf p n - p.pos) * p.den) * 65536) + fracOf p n) - p.frac) := by
  obtain ⟨s1, s2, s3, s4⟩ := step_le h
  obtain ⟨⟨a1, a2, a3⟩, ⟨b1, b2⟩, ⟨c1, c2⟩, d, e1, e2⟩ := valid_iff.1 h
  obtain ⟨f1, f2⟩ := far_le h hn (by omega)
  have hnum : 0 ≤ n * p.num ∧ n * p.num ≤ 50331648000 := by
    refine ⟨Int.mul_nonneg hn (by omega), ?_⟩
    calc n * p.num ≤ 65536 * p.num := Int.mul_le_mul_of_nonneg_right (by omega) (by omega)
      _ ≤ 50331648000 := by omega
  have hX : n * p.num * (65536 + p.adj) = far p n - p.frac := by unfold far; omega
  have hX0 : 0 ≤ n * p.num * (65536 + p.adj) := by rw [Int.mul_assoc]; exact Int.mul_nonneg hn s4
  have hq0 : 0 ≤ far p n / (p.den * 65536) := Int.ediv_nonneg f1 (by omega)
  have hqm : far p n / (p.den * 65536) * (p.den * 65536) + far p n % (p.den * 65536) = far p n := Int.mul_comm (far p n / _) _ ▸ Int.mul_ediv_add_emod _ _
  have hr0 := Int.emod_nonneg (far p n) (show p.den * 65536 ≠ 0 by omega)
  have hr1 := Int.emod_lt_of_pos (far p n) (show 0 < p.den * 65536 by omega)
  have hqd : 0 ≤ far p n / (p.den * 65536) * p.den := Int.mul_nonneg hq0 (by omega)
  have hassoc : far p n / (p.den * 65536) * (p.den * 65536) = far p n / (p.den * 65536) * p.den * 65536 := (Int.mul_assoc _ _ _).symm
  have hq1 : far p n / (p.den * 65536) ≤ far p n / (p.den * 65536) * p.den := by
    have := Int.mul_le_mul_of_nonneg_left a2 hq0
    omega
  rw [w64_in (n := 65536 + p.adj) (by omega) (by omega), w64_in (n := n * p.num) (by omega) (by omega), w64_in (n := n * p.num * (65536 + p.adj)) (by omega) (by omega), hX]
  unfold posOf fracOf
  rw [show p.pos + far p n / (p.den * 65536) - p.pos = far p n / (p.den * 65536) by omega]
  rw [hassoc] at hqm
  generalize far p n / (p.den * 65536) = q at *
  generalize far p n % (p.den * 65536) = r at *
  rw [w64_in (n := q) (by omega) (by omega), w64_in (n := q * p.den) (by omega) (by omega), w64_in (n := q * p.den * 65536) (by omega) (by omega), w64_in (n := q * p.den * 65536 + r) (by omega) (by omega),
    w64_in (n := q * p.den * 65536 + r - p.frac) (by omega) (by omega)]
  omega

theorem e8 (b : List Int) (n x y : Int) (hb : M.byt b = true) (hn : 0 ≤ n) (hn2 : n ≤ 65535) (hx : -32768 ≤ x) (hx2 : x ≤ 32767) (hy : -32768 ≤ y) (hy2 : y ≤ 32767) :
    callB g4 noCall 10 8 [.vi .u8 b, .int .u16 n, .int .i16 x, .int .i16 y] [] 0 = some (.bool true, [], 0) := by
  refine (show callB g4 noCall 10 8 [.vi .u8 b, .int .u16 n, .int .i16 x, .int .i16 y] [] 0 =
    (bif M.byt b && true then
      bif M.okT (M.made b).num (M.made b).den (M.made b).adj (M.made b).pos (M.made b).frac (M.tLo x y) && true then
      bif M.okT (M.made b).num (M.made b).den (M.made b).adj (M.made b).pos (M.made b).frac (M.tHi x y) && true then
      bif M.okN (M.made b).num (M.made b).den (M.tLo x y) (M.made b).pos (M.made b).frac (M.w64 (n.tmod 2000)) && true then
      bif M.okN (M.made b).num (M.made b).den (M.tHi x y) (M.made b).pos (M.made b).frac (M.w64 (n.tmod 2000)) && true then
      bif M.okM (M.made b).num (M.made b).den (M.tLo x y) (M.made b).pos (M.made b).frac (M.w64 (n.tmod 2000)) && true then
      bif M.okM (M.made b).num (M.made b).den (M.tHi x y) (M.made b).pos (M.made b).frac (M.w64 (n.tmod 2000)) && true then
      bif M.okA (M.made b).num (M.made b).den (M.tHi x y) (M.made b).pos (M.made b).frac (M.w64 (n.tmod 2000)) && true then
        bif decide (needOf ⟨(M.made b).num, (M.made b).den, M.tLo x y, (M.made b).pos, (M.made b).frac⟩ (M.w64 (n.tmod 2000)) ≤ needOf ⟨(M.made b).num, (M.made b).den, M.tHi x y, (M.made b).pos, (M.made b).frac⟩ (M.w64 (n.tmod 2000))) then
          bif decide (M.mkCnt (M.made b).num (M.made b).den (M.tLo x y) (M.made b).pos (M.made b).frac (M.w64 (n.tmod 2000)) ≥ M.mkCnt (M.made b).num (M.made b).den (M.tHi x y) (M.made b).pos (M.made b).frac (M.w64 (n.tmod 2000))) then
            some (.bool (M.w64 (M.w64 (M.w64 (n.tmod 2000) * (M.made b).num) * M.w64 (65536 + M.tHi x y)) ==
              M.w64 (M.w64 (M.w64 (M.w64 (M.w64 (posOf ⟨(M.made b).num, (M.made b).den, M.tHi x y, (M.made b).pos, (M.made b).frac⟩ (M.w64 (n.tmod 2000)) - (M.made b).pos) * (M.made b).den) * 65536) + fracOf ⟨(M.made b).num, (M.made b).den, M.tHi x y, (M.made b).pos, (M.made b).frac⟩ (M.w64 (n.tmod 2000))) - (M.made b).frac)), [], 0)
          else some (.bool false, [], 0)
        else some (.bool false, [], 0)
      else none
      else none
      else none
      else none
      else none
      else none
      else none
    else none) by kernel_rfl).trans ?_
  obtain ⟨hv, hpos⟩ := made_ok (byt_take 300 hb)
  have hmm : M.phase (b.take 300) = M.made b := rfl
  rw [hmm] at hv hpos
  have hn1 := Int.tmod_nonneg 2000 hn
  have hl1 := Int.tmod_lt_of_pos n (show (0 : Int) < 2000 by omega)
  rw [w64_in (n := n.tmod 2000) (by omega) (by omega)]
  generalize n.tmod 2000 = k at hn1 hl1
  obtain ⟨t1, t2, t3⟩ := tLo_range hx hx2 hy hy2
  generalize M.tLo x y = lo at t1 t2
  generalize M.tHi x y = hi at t2 t3
  generalize M.made b = p at hv hpos
  have hlo := hv.tune (n := lo) t1 (by omega)
  have hhi := hv.tune (n := hi) (by omega) t3
  have v1 : M.valid p.num p.den p.adj p.pos p.frac = true := hv
  have v2 : M.valid p.num p.den lo p.pos p.frac = true := hlo
  have v3 : M.valid p.num p.den hi p.pos p.frac = true := hhi
  have hadv : posOf ⟨p.num, p.den, hi, p.pos, p.frac⟩ k ≤ 1125899906842624 := by
    obtain ⟨f1, f2⟩ := far_le hhi hn1 (by omega)
    obtain ⟨⟨a1, a2, a3⟩, _⟩ := valid_iff.1 v3
    unfold posOf
    simp only
    have hQ := Int.ediv_nonneg f1 (show 0 ≤ p.den * 65536 by omega)
    have hm := Int.ediv_mul_le (far ⟨p.num, p.den, hi, p.pos, p.frac⟩ k) (show p.den * 65536 ≠ 0 by omega)
    have hk := Int.mul_le_mul_of_nonneg_left (show 65536 ≤ p.den * 65536 by omega) hQ
    omega
  have o1 : M.okT p.num p.den p.adj p.pos p.frac lo = true := by unfold M.okT; rw [v1, decide_eq_true t1, decide_eq_true (by omega)]; rfl
  have o2 : M.okT p.num p.den p.adj p.pos p.frac hi = true := by unfold M.okT; rw [v1, decide_eq_true (by omega), decide_eq_true t3]; rfl
  have o3 : M.okN p.num p.den lo p.pos p.frac k = true := by unfold M.okN; rw [v2, decide_eq_true hn1, decide_eq_true (by omega)]; rfl
  have o4 : M.okN p.num p.den hi p.pos p.frac k = true := by unfold M.okN; rw [v3, decide_eq_true hn1, decide_eq_true (by omega)]; rfl
  have o5 : M.okM p.num p.den lo p.pos p.frac k = true := by unfold M.okM; rw [v2, decide_eq_true hn1, decide_eq_true (by omega)]; rfl
  have o6 : M.okM p.num p.den hi p.pos p.frac k = true := by unfold M.okM; rw [v3, decide_eq_true hn1, decide_eq_true (by omega)]; rfl
  have o7 : M.okA p.num p.den hi p.pos p.frac k = true := by unfold M.okA; rw [v3, decide_eq_true hn1, decide_eq_true (by omega), decide_eq_true hadv]; rfl
  have hp := passed_ok hhi hn1 (by omega)
  simp only at hp
  rw [hb, o1, o2, o3, o4, o5, o6, o7, decide_eq_true (need_tune hv hn1 t2), decide_eq_true (show M.mkCnt p.num p.den lo p.pos p.frac k ≥ M.mkCnt p.num p.den hi p.pos p.frac k from cnt_tune hlo hhi t2 hn1 (by omega)), hp]
  simp only [beq_self_eq_true, Bool.and_true, cond_true]

theorem tunes_lifted (os : Os) (started : os.Started) (H : Type) (enc : TypeId × Value → H) :
    ReturnsInHanded {} Try.checked os 8 .any (Rows.phaseTunesSpec.pre6 enc Try.prog Try.f8 Rows.phaseTunesRow.domain false) (Rows.phaseTunesSpec.post enc Try.prog Try.f8 false true false false) := by
  refine returnsInHanded_of_change (C := Try.checked) own started (by kernel_rfl) Try.func8
    (ChangeSpec.witness6 (enc := enc) (C := Try.checked) false ⟨#[], #[.slice none 0 0, .int .u16 0, .int .i16 0, .int .i16 0], []⟩ 8 (by kernel_rfl) (by kernel_rfl) (by kernel_rfl) (by kernel_rfl)) ?_
  intro W base args ds gs before hval0 hW hcnd _
  have hval : ∀ (j : Nat) t v, Try.f8.params[j]? = some t → args[j]? = some v → Value.okWide Try.prog W .any base t v := hval0
  have hW' := hW
  obtain ⟨p, q, hA0, hV, rfl, hfz, hnd⟩ := hW
  have hA : DataW.TrodAll enc Try.prog W 0 (fun _ => true) true Try.f8.params.toList args.toList ds p := hA0
  rw [Try.params8] at hA hval
  obtain ⟨v0, v1, v2, v3, d0, d1, d2, d3, p0, p1, p2, p3, rfl, rfl, rfl, h0, h1, h2, h3⟩ := trodAll_four hA
  obtain ⟨rfl, rfl⟩ := trodVars_none hV
  obtain ⟨a, rfl, rfl, rfl, wa⟩ := open_int Try.underlying40 (hval 1 40 v1 rfl rfl) h1
  obtain ⟨x, rfl, rfl, rfl, wx⟩ := open_int Try.underlying41 (hval 2 41 v2 rfl rfl) h2
  obtain ⟨y, rfl, rfl, rfl, wy⟩ := open_int Try.underlying41 (hval 3 41 v3 rfl rfl) h3
  obtain ⟨a0, len, cap, rfl⟩ := okWide_slice Try.underlying22 (hval 0 22 v0 rfl rfl)
  obtain ⟨b, hb, wb⟩ := open_row' Try.underlying22 Try.underlying5 (by kernel_rfl) ⟨_, rfl, rfl⟩ h0
  simp only [Lit.wf, IntKind.min, IntKind.max, IntKind.signed, IntKind.bits, Bool.and_eq_true, decide_eq_true_eq] at wa wx wy
  have ha : 0 ≤ a ∧ a ≤ 65535 := by simpa using wa
  have hx : -32768 ≤ x ∧ x ≤ 32767 := by simpa using wx
  have hy : -32768 ≤ y ∧ y ≤ 32767 := by simpa using wy
  have hcalls := pure_of_callB g4_ok noCall_ok (e8 b a x y (byt_of_wf wb) ha.1 ha.2 hx.1 hx.2 hy.1 hy.2) rfl (fun b _ => b < W.heap.size) W [.slice a0 len cap, .int .u16 a, .int .i16 x, .int .i16 y] (fun b _ h => h)
    (.cons hb (.cons (.int _ _) (.cons (.int _ _) (.cons (.int _ _) .nil))))
  refine hcalls.mono fun e W' ⟨V, he, hs, hbl, hos, hout, hV⟩ => ?_
  cases hV
  exact ⟨_, he, law_post laidOut hW' rfl rfl rfl rfl (by kernel_rfl) Try.underlying4 (by rw [Try.params8]; intro t ht; simp at ht; rcases ht with rfl | rfl | rfl <;> exact ⟨by kernel_rfl, by decide +kernel⟩) hos hout hbl⟩

theorem tunes_holds : Rows.PhaseTunesSaid :=
  OpenClaim.holds_of_wide 8 Try.f8 rfl rfl rfl rfl rfl rfl rfl ⟨rfl, rfl, rfl, rfl, rfl⟩ rfl rfl rfl rfl rfl (by kernel_rfl) Try.func8 (by kernel_rfl)
    (of_decide_eq_true (by kernel_rfl)) (by unfold Func.isWrapper; first | (rw [if_pos (by decide +kernel)]; kernel_rfl) | (rw [if_neg (by decide +kernel)]; exact ⟨rfl, rfl⟩))
    (fun os started H enc _ => tunes_lifted os started H enc)
end Go.Proofs.Ytcpidomblalmpaa
