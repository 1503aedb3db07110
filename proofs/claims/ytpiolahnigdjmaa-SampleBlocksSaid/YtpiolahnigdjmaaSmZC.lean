/- SampleBlocks holds for every input: which blocks are valid, how many frames they have, and silence. -/
import Derived.Test.YtpiolahnigdjmaaSmS
import Derived.Test.YtpiolahnigdjmaaAmRow
import Derived.Test.YtpiolahnigdjmaaRows
namespace Go.Proofs.Ytpiolahnigdjmaa
open Am
set_option maxRecDepth 100000
set_option linter.unusedVariables false
set_option linter.unusedSimpArgs false
open Go.ChangeShapes Go.WideShapes Go.ChangeAt Go.RowKit
theorem own : ownKnob Try.prog.godebug = none := by kernel_rfl
theorem laidOut : laidOutB Try.prog = true := by kernel_rfl
theorem byt_of_wf {l : List Int} (h : ∀ n ∈ l, (Lit.int .u8 n).wf = true) : M.byt l = true := by
  simp only [M.byt, List.all_eq_true]
  intro n hn
  have := h n hn
  simpa [Lit.wf, IntKind.min, IntKind.max, IntKind.signed, IntKind.bits] using this

theorem eqL_self (l : List Int) : M.eqL l l = true := decide_eq_true rfl
theorem silD_len (c n : Int) : (M.silD c n).length < 4294967296 := by
  unfold M.silD M.silE
  by_cases h1 : c < 1
  · rw [decide_eq_true h1]; exact Nat.zero_lt_succ _
  · by_cases h2 : c > 8
    · rw [decide_eq_false h1, decide_eq_true h2]; exact Nat.zero_lt_succ _
    · by_cases h3 : n < 0
      · rw [decide_eq_false h1, decide_eq_false h2, decide_eq_true h3]; exact Nat.zero_lt_succ _
      · by_cases h4 : n > 65536
        · rw [decide_eq_false h1, decide_eq_false h2, decide_eq_false h3, decide_eq_true h4]; exact Nat.zero_lt_succ _
        · rw [decide_eq_false h1, decide_eq_false h2, decide_eq_false h3, decide_eq_false h4]
          have b1 : c * n ≤ 8 * 65536 := Int.mul_le_mul (by omega) (by omega) (by omega) (by omega)
          show (List.replicate (c * n).toNat 0).length < _
          rw [List.length_replicate]; omega
theorem e_law (c n k : Int) (b : List Int) : callB z1 noCall 10 8 [.agg [.int .i64 c, .vi .i32 b], .int .i64 n, .int .i64 k] [] 0 = some (.bool true, [], 0) := by
  refine (show callB z1 noCall 10 8 [.agg [.int .i64 c, .vi .i32 b], .int .i64 n, .int .i64 k] [] 0 = (bif !decide ((b.length : Int) > 1000) then (bif decide (k > 2000) then (bif decide (k ≤ 65536) then some (.bool true, [], 0) else (bif decide (b.length < 4294967296) && true then (bif decide (b.length < 4294967296) && true then (bif M.valid c b == M.valid c b then (bif decide (b.length < 4294967296) && true then (bif decide (b.length < 4294967296) && true then (bif M.frames c b == M.frames c b then (bif decide ((M.silD n k).length < 4294967296) && true then (bif M.silC n k == M.silC n k && M.eqL (M.silD n k) (M.silD n k) then some (.bool (M.silE n k == M.silE n k), [], 0) else some (.bool false, [], 0)) else none) else some (.bool false, [], 0)) else none) else none) else some (.bool false, [], 0)) else none) else none)) else (bif decide (b.length < 4294967296) && true then (bif decide (b.length < 4294967296) && true then (bif M.valid c b == M.valid c b then (bif decide (b.length < 4294967296) && true then (bif decide (b.length < 4294967296) && true then (bif M.frames c b == M.frames c b then (bif decide ((M.silD n k).length < 4294967296) && true then (bif M.silC n k == M.silC n k && M.eqL (M.silD n k) (M.silD n k) then some (.bool (M.silE n k == M.silE n k), [], 0) else some (.bool false, [], 0)) else none) else some (.bool false, [], 0)) else none) else none) else some (.bool false, [], 0)) else none) else none)) else some (.bool true, [], 0)) by kernel_rfl).trans ?_
  by_cases h : (b.length : Int) > 1000
  · rw [decide_eq_true h]; rfl
  · rw [decide_eq_false h, decide_eq_true (by omega : b.length < 4294967296), decide_eq_true (silD_len n k)]
    simp only [eqL_self, bne_self_eq_false, beq_self_eq_true, Bool.not_true, Bool.not_false, Bool.and_true, cond_true, cond_false]
    cases decide (k > 2000) <;> cases decide (k ≤ 65536) <;> rfl

theorem sampleBlocks_lifted (os : Os) (started : os.Started) (H : Type) (enc : TypeId × Value → H) :
    ReturnsInHanded {} Try.checked os 8 .any (Rows.sampleBlocksSpec.pre6 enc Try.prog Try.f8 Rows.sampleBlocksRow.domain false) (Rows.sampleBlocksSpec.post enc Try.prog Try.f8 false true false false) := by
  refine returnsInHanded_of_change (C := Try.checked) own started (by kernel_rfl) Try.func8
    (ChangeSpec.witness6 (enc := enc) (C := Try.checked) false ⟨#[], #[.agg #[.int .i64 0, .slice none 0 0], .int .i64 0, .int .i64 0], []⟩ 8 (by kernel_rfl) (by kernel_rfl) (by kernel_rfl) (by kernel_rfl)) ?_
  intro W base args ds gs before hval0 hW hcnd _
  have hval : ∀ (j : Nat) t v, Try.f8.params[j]? = some t → args[j]? = some v → Value.okWide Try.prog W .any base t v := hval0
  have hW' := hW
  obtain ⟨p, q, hA0, hV, rfl, hfz, hnd⟩ := hW
  have hA : DataW.TrodAll enc Try.prog W 0 (fun _ => true) true Try.f8.params.toList args.toList ds p := hA0
  rw [Try.params8] at hA hval
  obtain ⟨v0, v1, v2, d0, d1, d2, p0, p1, p2, rfl, rfl, rfl, h0, h1, h2⟩ := trodAll_three hA
  obtain ⟨rfl, rfl⟩ := trodVars_none hV
  obtain ⟨cs0, rfl, hs0⟩ := okWide_agg Try.underlying27 (hval 0 27 v0 rfl rfl)
  have hn0 : Try.prog.cellsOf 27 = 2 := by kernel_rfl
  rw [hn0] at hs0
  obtain ⟨f0, hf0⟩ := h0
  obtain ⟨cs0_0⟩ := cs0
  have hs0_0 : cs0_0.length = 2 := hs0
  obtain ⟨c0_0, cs0_1, rfl, hs0_1⟩ := len_succ hs0_0
  obtain ⟨c0_1, cs0_2, rfl, hs0_2⟩ := len_succ hs0_1
  obtain rfl := List.length_eq_zero_iff.1 hs0_2
  have g0 : DataW.trod enc Try.prog W 0 (fun _ => true) true f0 27 [c0_0, c0_1] = some (d0, p0) := hf0
  obtain ⟨mg0_0, yg0_0, g0_0⟩ := trod_sub' Try.underlying27 g0 0 0 1 (u := 3) (ds := [c0_0]) rfl (by kernel_rfl) rfl
  obtain ⟨c, eg0_0, _, w_c⟩ := DataW.trod_int Try.underlying3 g0_0
  obtain rfl := List.singleton_inj.1 eg0_0
  obtain ⟨mg0_1, yg0_1, g0_1⟩ := trod_sub' Try.underlying27 g0 1 1 1 (u := 22) (ds := [c0_1]) rfl (by kernel_rfl) rfl
  obtain ⟨b, h_b, w_b⟩ := open_rowT Try.underlying22 Try.underlying21 (by kernel_rfl) g0_1
  have r_c : -9223372036854775808 ≤ c ∧ c ≤ 9223372036854775807 := by
    simp only [Lit.wf, IntKind.min, IntKind.max, IntKind.signed, IntKind.bits, Bool.and_eq_true, decide_eq_true_eq] at w_c
    simpa using w_c
  obtain ⟨n, rfl, rfl, rfl, w_n⟩ := open_int Try.underlying3 (hval 1 3 v1 rfl rfl) h1
  obtain ⟨k, rfl, rfl, rfl, w_k⟩ := open_int Try.underlying3 (hval 2 3 v2 rfl rfl) h2
  have r_n : -9223372036854775808 ≤ n ∧ n ≤ 9223372036854775807 := by
    simp only [Lit.wf, IntKind.min, IntKind.max, IntKind.signed, IntKind.bits, Bool.and_eq_true, decide_eq_true_eq] at w_n
    simpa using w_n
  have r_k : -9223372036854775808 ≤ k ∧ k ≤ 9223372036854775807 := by
    simp only [Lit.wf, IntKind.min, IntKind.max, IntKind.signed, IntKind.bits, Bool.and_eq_true, decide_eq_true_eq] at w_k
    simpa using w_k
  have hcalls := pure_of_callB z1_ok noCall_ok (m := 10) (e_law c n k b) rfl (fun b _ => b < W.heap.size) W [.agg #[.int .i64 c, c0_1], .int .i64 n, .int .i64 k] (fun b _ h => h)
    (.cons ⟨_, rfl, (.cons (.int _ _) (.cons h_b .nil))⟩ (.cons (.int _ _) (.cons (.int _ _) .nil)))
  refine hcalls.mono fun e W' ⟨V, he, hs, hbl, hos, hout, hV⟩ => ?_
  cases hV
  exact ⟨_, he, law_post laidOut hW' rfl rfl rfl rfl (by kernel_rfl) Try.underlying4 (by rw [Try.params8]; intro t ht; simp at ht; rcases ht with rfl | rfl <;> exact ⟨by kernel_rfl, by decide +kernel⟩) hos hout hbl⟩

theorem sampleBlocks_holds : Rows.SampleBlocksSaid :=
  OpenClaim.holds_of_wide 8 Try.f8 rfl rfl rfl rfl rfl rfl rfl ⟨rfl, rfl, rfl, rfl, rfl⟩ rfl rfl rfl rfl rfl (by kernel_rfl) Try.func8 (by kernel_rfl)
    (of_decide_eq_true (by kernel_rfl)) (by unfold Func.isWrapper; first | (rw [if_pos (by decide +kernel)]; kernel_rfl) | (rw [if_neg (by decide +kernel)]; exact ⟨rfl, rfl⟩))
    (fun os started H enc _ => sampleBlocks_lifted os started H enc)

end Go.Proofs.Ytpiolahnigdjmaa
