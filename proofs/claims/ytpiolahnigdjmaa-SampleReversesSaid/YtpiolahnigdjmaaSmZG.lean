/- SampleReverses holds for every input: the two orders of bytes are the reverse of each other, sample by sample. -/
import Derived.Test.YtpiolahnigdjmaaSmG
import Derived.Test.YtpiolahnigdjmaaAmRow
import Derived.Test.YtpiolahnigdjmaaRows
namespace Go.Proofs.Ytpiolahnigdjmaa
open Am
set_option maxRecDepth 100000
set_option linter.unusedVariables false
set_option linter.unusedSimpArgs false
open Go.ChangeShapes Go.WideShapes Go.ChangeAt Go.RowKit
theorem own : ownKnob Try.prog.godebug = none := by kernel_rfl
theorem laidOut : laidOutB Try.prog = true := by kernel_rfl
theorem byt_of_wf {l : List Int} (h : ∀ n ∈ l, (Lit.int .u8 n).wf = true) : M.byt l = true := by
  simp only [M.byt, List.all_eq_true]
  intro n hn
  have := h n hn
  simpa [Lit.wf, IntKind.min, IntKind.max, IntKind.signed, IntKind.bits] using this

namespace M
def rL (s : List Int) : List Int := blkD (bN 1 15) (s.take 300)
def rW (n : Int) (b : List Int) : Int := w64 (w64 ((b.length : Int).tdiv n) * n)
def rB (n : Int) (b : List Int) : List Int := b.take ((rW n b).toNat * 1)
end M
theorem eqL_self (l : List Int) : M.eqL l l = true := decide_eq_true rfl
theorem rW_ok {n : Int} (h : n = 2 ∨ n = 3 ∨ n = 4) (b : List Int) (hl : b.length ≤ 200) : 0 ≤ M.rW n b ∧ M.rW n b ≤ b.length ∧ (M.rW n b).toNat % n.toNat = 0 := by
  unfold M.rW
  rcases h with rfl | rfl | rfl
  · rw [show (b.length : Int).tdiv 2 = ((b.length / 2 : Nat) : Int) from rfl, w64_in (n := ((b.length / 2 : Nat) : Int)) (by omega) (by omega), w64_in (by omega) (by omega)]
    refine ⟨by omega, by omega, ?_⟩
    show _ % 2 = 0
    omega
  · rw [show (b.length : Int).tdiv 3 = ((b.length / 3 : Nat) : Int) from rfl, w64_in (n := ((b.length / 3 : Nat) : Int)) (by omega) (by omega), w64_in (by omega) (by omega)]
    refine ⟨by omega, by omega, ?_⟩
    show _ % 3 = 0
    omega
  · rw [show (b.length : Int).tdiv 4 = ((b.length / 4 : Nat) : Int) from rfl, w64_in (n := ((b.length / 4 : Nat) : Int)) (by omega) (by omega), w64_in (by omega) (by omega)]
    refine ⟨by omega, by omega, ?_⟩
    show _ % 4 = 0
    omega
/-- what holds of one pair of kinds -/
theorem pair_ok {n k k' : Int} (h : (n = 2 ∧ k = 2 ∧ k' = 3) ∨ (n = 3 ∧ k = 4 ∧ k' = 5) ∨ (n = 4 ∧ k = 6 ∧ k' = 7)) {b s : List Int} (hb : M.byt b = true) (hs : M.byt s = true) (hl : b.length ≤ 200) :
    M.byt (M.rB n b) = true ∧ decide ((M.rB n b).length < 4294967296) = true ∧ M.okG n (M.rB n b) = true ∧ M.byt (M.revG n.toNat (M.rB n b)) = true ∧ decide ((M.revG n.toNat (M.rB n b)).length < 4294967296) = true ∧ M.encE k (M.rL s) = 0 ∧ M.encE k' (M.rL s) = 0 ∧
    M.decE k (M.rB n b) = 0 ∧ M.decE k' (M.revG n.toNat (M.rB n b)) = 0 ∧ M.okG n (M.encL k (M.rL s)) = true ∧ M.revG n.toNat (M.encL k (M.rL s)) = M.encL k' (M.rL s) ∧ decide ((M.decL k (M.rB n b)).length < 4294967296) = true ∧ M.decL k' (M.revG n.toNat (M.rB n b)) = M.decL k (M.rB n b) := by
  have hn : n = 2 ∨ n = 3 ∨ n = 4 := by omega
  have hk : 1 ≤ k ∧ k ≤ 7 ∧ 1 ≤ k' ∧ k' ≤ 7 := by omega
  have hz : M.fsz k = n ∧ M.fsz k' = n ∧ M.fbg k = false ∧ M.fbg k' = true := by rcases h with ⟨rfl, rfl, rfl⟩ | ⟨rfl, rfl, rfl⟩ | ⟨rfl, rfl, rfl⟩ <;> exact ⟨rfl, rfl, rfl, rfl⟩
  obtain ⟨w0, w1, w2⟩ := rW_ok hn b hl
  have hB : M.byt (M.rB n b) = true := byt_take _ hb
  have hBl : (M.rB n b).length = (M.rW n b).toNat := by unfold M.rB; rw [List.length_take]; omega
  have hBm : (M.rB n b).length % n.toNat = 0 := by rw [hBl]; exact w2
  have hL : ∀ x ∈ M.rL s, M.smp x = true := fun x hx => smp_iff.2 ((blk_ok _ (byt_take 300 hs)).1 x hx)
  have hLl : (M.rL s).length = 15 := blkD_length _ _
  obtain ⟨e1, e2⟩ := enc_ok hk.1 hk.2.1 hL (by omega)
  obtain ⟨e3, e4⟩ := enc_ok hk.2.2.1 hk.2.2.2 hL (by omega)
  obtain ⟨d1, d2⟩ := dec_ok hk.1 hk.2.1 (l := M.rB n b) (by rw [hz.1]; exact hBm) (by omega)
  obtain ⟨d3, d4⟩ := dec_ok hk.2.2.1 hk.2.2.2 (l := M.revG n.toNat (M.rB n b)) (by rw [hz.2.1, revG_len]; exact hBm) (by rw [revG_len]; omega)
  have hlen : ((M.rL s).flatMap (M.encS n false)).length = n.toNat * (M.rL s).length := flatMap_len _ (fun x => wr_len _ _ _) _
  have hle : n.toNat * (M.rL s).length ≤ 60 := by rw [hLl]; omega
  have g1 : M.okG n (M.rB n b) = true := by unfold M.okG; rw [decide_eq_true (by omega), decide_eq_true (by omega), decide_eq_true hBm, decide_eq_true (by omega)]; rfl
  have g2 : M.okG n (M.encL k (M.rL s)) = true := by
    rw [e2, hz.1, hz.2.2.1]
    unfold M.okG; rw [hlen, decide_eq_true (by omega), decide_eq_true (by omega), decide_eq_true (Nat.mul_mod_right _ _), decide_eq_true (by omega)]; rfl
  have hdl : (M.decL k (M.rB n b)).length ≤ (M.rB n b).length := by rw [d2]; unfold M.decAll; rw [decN_len]; exact Nat.div_le_self _ _
  refine ⟨hB, decide_eq_true (by omega), g1, byt_revG hB, decide_eq_true (by rw [revG_len]; omega), e1, e3, d1, d3, g2, ?_, decide_eq_true (by omega), ?_⟩
  · rw [e2, e4, hz.1, hz.2.1, hz.2.2.1, hz.2.2.2]
    exact revG_enc (by omega) _
  · rw [d2, d4, hz.1, hz.2.1, hz.2.2.1, hz.2.2.2]
    exact revG_dec (by omega) _ hBm
theorem e_law (s b : List Int) (hs : M.byt s = true) (hb : M.byt b = true) : callB x2 noCall 10 6 [.vi .u8 s, .vi .u8 b] [] 0 = some (.bool true, [], 0) := by
  refine (show callB x2 noCall 10 6 [.vi .u8 s, .vi .u8 b] [] 0 = (bif decide ((b.length : Int) > 200) then some (AV.bool true, [], 0) else bif decide (0 ≤ M.rW 2 b) && decide (M.rW 2 b ≤ (b.length : Int)) && true then bif M.byt (M.rB 2 b) && decide ((M.rB 2 b).length < 4294967296) && true then bif decide (0 ≤ M.rW 2 b) && decide (M.rW 2 b ≤ (b.length : Int)) && true then bif M.okG 2 (M.rB 2 b) && true then bif M.byt (M.revG 2 (M.rB 2 b)) && decide ((M.revG 2 (M.rB 2 b)).length < 4294967296) && true then bif !M.encE 2 (M.rL s) != 0 then bif !M.encE 3 (M.rL s) != 0 then bif !M.decE 2 (M.rB 2 b) != 0 then bif !M.decE 3 (M.revG 2 (M.rB 2 b)) != 0 then bif M.okG 2 (M.encL 2 (M.rL s)) && true then bif !!(bytesOf (M.revG 2 (M.encL 2 (M.rL s)))).toList == (bytesOf (M.encL 3 (M.rL s))).toList then bif decide ((M.decL 2 (M.rB 2 b)).length < 4294967296) && true then bif !M.eqL (M.decL 2 (M.rB 2 b)) (M.decL 3 (M.revG 2 (M.rB 2 b))) then some (AV.bool false, [], 0) else bif decide (0 ≤ M.rW 3 b) && decide (M.rW 3 b ≤ (b.length : Int)) && true then bif M.byt (M.rB 3 b) && decide ((M.rB 3 b).length < 4294967296) && true then bif decide (0 ≤ M.rW 3 b) && decide (M.rW 3 b ≤ (b.length : Int)) && true then bif M.okG 3 (M.rB 3 b) && true then bif M.byt (M.revG 3 (M.rB 3 b)) && decide ((M.revG 3 (M.rB 3 b)).length < 4294967296) && true then bif !M.encE 4 (M.rL s) != 0 then bif !M.encE 5 (M.rL s) != 0 then bif !M.decE 4 (M.rB 3 b) != 0 then bif !M.decE 5 (M.revG 3 (M.rB 3 b)) != 0 then bif M.okG 3 (M.encL 4 (M.rL s)) && true then bif !!(bytesOf (M.revG 3 (M.encL 4 (M.rL s)))).toList == (bytesOf (M.encL 5 (M.rL s))).toList then bif decide ((M.decL 4 (M.rB 3 b)).length < 4294967296) && true then bif !M.eqL (M.decL 4 (M.rB 3 b)) (M.decL 5 (M.revG 3 (M.rB 3 b))) then some (AV.bool false, [], 0) else bif decide (0 ≤ M.rW 4 b) && decide (M.rW 4 b ≤ (b.length : Int)) && true then bif M.byt (M.rB 4 b) && decide ((M.rB 4 b).length < 4294967296) && true then bif decide (0 ≤ M.rW 4 b) && decide (M.rW 4 b ≤ (b.length : Int)) && true then bif M.okG 4 (M.rB 4 b) && true then bif M.byt (M.revG 4 (M.rB 4 b)) && decide ((M.revG 4 (M.rB 4 b)).length < 4294967296) && true then bif !M.encE 6 (M.rL s) != 0 then bif !M.encE 7 (M.rL s) != 0 then bif !M.decE 6 (M.rB 4 b) != 0 then bif !M.decE 7 (M.revG 4 (M.rB 4 b)) != 0 then bif M.okG 4 (M.encL 6 (M.rL s)) && true then bif !!(bytesOf (M.revG 4 (M.encL 6 (M.rL s)))).toList == (bytesOf (M.encL 7 (M.rL s))).toList then bif decide ((M.decL 6 (M.rB 4 b)).length < 4294967296) && true then bif !M.eqL (M.decL 6 (M.rB 4 b)) (M.decL 7 (M.revG 4 (M.rB 4 b))) then some (AV.bool false, [], 0) else some (AV.bool true, [], 0) else none else some (AV.bool false, [], 0) else none else some (AV.bool false, [], 0) else some (AV.bool false, [], 0) else some (AV.bool false, [], 0) else some (AV.bool false, [], 0) else none else none else none else none else none else none else some (AV.bool false, [], 0) else none else some (AV.bool false, [], 0) else some (AV.bool false, [], 0) else some (AV.bool false, [], 0) else some (AV.bool false, [], 0) else none else none else none else none else none else none else some (AV.bool false, [], 0) else none else some (AV.bool false, [], 0) else some (AV.bool false, [], 0) else some (AV.bool false, [], 0) else some (AV.bool false, [], 0) else none else none else none else none else none) by kernel_rfl).trans ?_
  by_cases h : (b.length : Int) > 200
  · rw [decide_eq_true h]; rfl
  · rw [decide_eq_false h]
    obtain ⟨w0, w1, _⟩ := rW_ok (n := 2) (.inl rfl) b (by omega)
    obtain ⟨x0, x1, _⟩ := rW_ok (n := 3) (.inr (.inl rfl)) b (by omega)
    obtain ⟨y0, y1, _⟩ := rW_ok (n := 4) (.inr (.inr rfl)) b (by omega)
    obtain ⟨a1, a2, a3, a4, a5, a6, a7, a8, a9, a10, a11, a12, a13⟩ := pair_ok (.inl ⟨rfl, rfl, rfl⟩) hb hs (show b.length ≤ 200 by omega)
    obtain ⟨b1, b2, b3, b4, b5, b6, b7, b8, b9, b10, b11, b12, b13⟩ := pair_ok (.inr (.inl ⟨rfl, rfl, rfl⟩)) hb hs (show b.length ≤ 200 by omega)
    obtain ⟨c1, c2, c3, c4, c5, c6, c7, c8, c9, c10, c11, c12, c13⟩ := pair_ok (.inr (.inr ⟨rfl, rfl, rfl⟩)) hb hs (show b.length ≤ 200 by omega)
    simp only [show (2 : Int).toNat = 2 from rfl, show (3 : Int).toNat = 3 from rfl, show (4 : Int).toNat = 4 from rfl] at *
    simp only [decide_eq_true w0, decide_eq_true w1, decide_eq_true x0, decide_eq_true x1, decide_eq_true y0, decide_eq_true y1, a1, a2, a3, a4, a5, a6, a7, a8, a9, a10, a11, a12, a13, b1, b2, b3, b4, b5, b6, b7, b8, b9, b10, b11, b12, b13, c1, c2, c3, c4, c5, c6, c7, c8, c9, c10, c11, c12, c13, eqL_self, beq_self_eq_true, bne_self_eq_false, Bool.not_true, Bool.not_false, Bool.and_true, cond_true, cond_false]

theorem sampleReverses_lifted (os : Os) (started : os.Started) (H : Type) (enc : TypeId × Value → H) :
    ReturnsInHanded {} Try.checked os 6 .any (Rows.sampleReversesSpec.pre6 enc Try.prog Try.f6 Rows.sampleReversesRow.domain false) (Rows.sampleReversesSpec.post enc Try.prog Try.f6 false true false false) := by
  refine returnsInHanded_of_change (C := Try.checked) own started (by kernel_rfl) Try.func6
    (ChangeSpec.witness6 (enc := enc) (C := Try.checked) false ⟨#[], #[.slice none 0 0, .slice none 0 0], []⟩ 8 (by kernel_rfl) (by kernel_rfl) (by kernel_rfl) (by kernel_rfl)) ?_
  intro W base args ds gs before hval0 hW hcnd _
  have hval : ∀ (j : Nat) t v, Try.f6.params[j]? = some t → args[j]? = some v → Value.okWide Try.prog W .any base t v := hval0
  have hW' := hW
  obtain ⟨p, q, hA0, hV, rfl, hfz, hnd⟩ := hW
  have hA : DataW.TrodAll enc Try.prog W 0 (fun _ => true) true Try.f6.params.toList args.toList ds p := hA0
  rw [Try.params6] at hA hval
  obtain ⟨v0, v1, d0, d1, p0, p1, rfl, rfl, rfl, h0, h1⟩ := trodAll_two hA
  obtain ⟨rfl, rfl⟩ := trodVars_none hV
  obtain ⟨a_s, len_s, cap_s, rfl⟩ := okWide_slice Try.underlying23 (hval 0 23 v0 rfl rfl)
  obtain ⟨s, h_s, w_s⟩ := open_row' Try.underlying23 Try.underlying5 (by kernel_rfl) ⟨_, rfl, rfl⟩ h0
  obtain ⟨a_b, len_b, cap_b, rfl⟩ := okWide_slice Try.underlying23 (hval 1 23 v1 rfl rfl)
  obtain ⟨b, h_b, w_b⟩ := open_row' Try.underlying23 Try.underlying5 (by kernel_rfl) ⟨_, rfl, rfl⟩ h1
  have hcalls := pure_of_callB x2_ok noCall_ok (m := 10) (e_law s b (byt_of_wf w_s) (byt_of_wf w_b)) rfl (fun b _ => b < W.heap.size) W [.slice a_s len_s cap_s, .slice a_b len_b cap_b] (fun b _ h => h)
    (.cons h_s (.cons h_b .nil))
  refine hcalls.mono fun e W' ⟨V, he, hs, hbl, hos, hout, hV⟩ => ?_
  cases hV
  exact ⟨_, he, law_post laidOut hW' rfl rfl rfl rfl (by kernel_rfl) Try.underlying4 (by rw [Try.params6]; intro t ht; simp at ht; subst ht; exact ⟨by kernel_rfl, by decide +kernel⟩) hos hout hbl⟩

theorem sampleReverses_holds : Rows.SampleReversesSaid :=
  OpenClaim.holds_of_wide 6 Try.f6 rfl rfl rfl rfl rfl rfl rfl ⟨rfl, rfl, rfl, rfl, rfl⟩ rfl rfl rfl rfl rfl (by kernel_rfl) Try.func6 (by kernel_rfl)
    (of_decide_eq_true (by kernel_rfl)) (by unfold Func.isWrapper; first | (rw [if_pos (by decide +kernel)]; kernel_rfl) | (rw [if_neg (by decide +kernel)]; exact ⟨rfl, rfl⟩))
    (fun os started H enc _ => sampleReverses_lifted os started H enc)

end Go.Proofs.Ytpiolahnigdjmaa
