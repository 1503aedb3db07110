/- SampleDecodes holds for every input: sizes, and the samples of bytes, or the error. -/
import Derived.Test.YtpiolahnigdjmaaSmS
import Derived.Test.YtpiolahnigdjmaaAmRow
import Derived.Test.YtpiolahnigdjmaaRows
namespace Go.Proofs.Ytpiolahnigdjmaa
open Am
set_option maxRecDepth 100000
set_option linter.unusedVariables false
set_option linter.unusedSimpArgs false
open Go.ChangeShapes Go.WideShapes Go.ChangeAt Go.RowKit
theorem own : ownKnob Try.prog.godebug = none := by kernel_rfl
theorem laidOut : laidOutB Try.prog = true := by kernel_rfl
theorem byt_of_wf {l : List Int} (h : ∀ n ∈ l, (Lit.int .u8 n).wf = true) : M.byt l = true := by
  simp only [M.byt, List.all_eq_true]
  intro n hn
  have := h n hn
  simpa [Lit.wf, IntKind.min, IntKind.max, IntKind.signed, IntKind.bits] using this

theorem decL_len (k : Int) (l : List Int) : (M.decL k l).length ≤ l.length := by
  unfold M.decL
  cases M.decE k l == 0 with
  | false => simp
  | true => simp only [cond_true, M.decAll, decN_len]; exact Nat.div_le_self _ _
theorem eqL_self (l : List Int) : M.eqL l l = true := decide_eq_true rfl
theorem e_law (k n : Int) (b : List Int) (hb : M.byt b = true) : callB z1 noCall 10 7 [.int .i64 k, .vi .u8 b, .int .i64 n] [] 0 = some (.bool true, [], 0) := by
  refine (show callB z1 noCall 10 7 [.int .i64 k, .vi .u8 b, .int .i64 n] [] 0 = (bif decide ((b.length : Int) > 1000) then some (.bool true, [], 0) else (bif M.byt b && decide (b.length < 4294967296) && true then (bif M.byt b && decide (b.length < 4294967296) && true then (bif !(M.fsz k != M.fsz k) then (bif !(M.decE k b != M.decE k b) then (bif decide ((M.decL k b).length < 4294967296) && true then (bif !M.eqL (M.decL k b) (M.decL k b) then some (.bool false, [], 0) else (bif M.byt b && decide (b.length < 4294967296) && true then (bif M.byt b && decide (b.length < 4294967296) && true then (bif !(M.fsz (M.w64 (1 + (M.w64 (k.tmod 7 + 7)).tmod 7)) != M.fsz (M.w64 (1 + (M.w64 (k.tmod 7 + 7)).tmod 7))) then (bif !(M.decE (M.w64 (1 + (M.w64 (k.tmod 7 + 7)).tmod 7)) b != M.decE (M.w64 (1 + (M.w64 (k.tmod 7 + 7)).tmod 7)) b) then (bif decide ((M.decL (M.w64 (1 + (M.w64 (k.tmod 7 + 7)).tmod 7)) b).length < 4294967296) && true then (bif !M.eqL (M.decL (M.w64 (1 + (M.w64 (k.tmod 7 + 7)).tmod 7)) b) (M.decL (M.w64 (1 + (M.w64 (k.tmod 7 + 7)).tmod 7)) b) then some (.bool false, [], 0) else some (.bool (M.sat n == M.sat n), [], 0)) else none) else some (.bool false, [], 0)) else some (.bool false, [], 0)) else none) else none)) else none) else some (.bool false, [], 0)) else some (.bool false, [], 0)) else none) else none)) by kernel_rfl).trans ?_
  by_cases h : (b.length : Int) > 1000
  · rw [decide_eq_true h]; rfl
  · have h1 : ∀ k, decide ((M.decL k b).length < 4294967296) = true := fun k => decide_eq_true (by have := decL_len k b; omega)
    rw [decide_eq_false h, hb, decide_eq_true (by omega : b.length < 4294967296)]
    simp only [h1, eqL_self, bne_self_eq_false, beq_self_eq_true, Bool.not_true, Bool.not_false, Bool.and_true, cond_true, cond_false]

theorem sampleDecodes_lifted (os : Os) (started : os.Started) (H : Type) (enc : TypeId × Value → H) :
    ReturnsInHanded {} Try.checked os 7 .any (Rows.sampleDecodesSpec.pre6 enc Try.prog Try.f7 Rows.sampleDecodesRow.domain false) (Rows.sampleDecodesSpec.post enc Try.prog Try.f7 false true false false) := by
  refine returnsInHanded_of_change (C := Try.checked) own started (by kernel_rfl) Try.func7
    (ChangeSpec.witness6 (enc := enc) (C := Try.checked) false ⟨#[], #[.int .i64 0, .slice none 0 0, .int .i64 0], []⟩ 8 (by kernel_rfl) (by kernel_rfl) (by kernel_rfl) (by kernel_rfl)) ?_
  intro W base args ds gs before hval0 hW hcnd _
  have hval : ∀ (j : Nat) t v, Try.f7.params[j]? = some t → args[j]? = some v → Value.okWide Try.prog W .any base t v := hval0
  have hW' := hW
  obtain ⟨p, q, hA0, hV, rfl, hfz, hnd⟩ := hW
  have hA : DataW.TrodAll enc Try.prog W 0 (fun _ => true) true Try.f7.params.toList args.toList ds p := hA0
  rw [Try.params7] at hA hval
  obtain ⟨v0, v1, v2, d0, d1, d2, p0, p1, p2, rfl, rfl, rfl, h0, h1, h2⟩ := trodAll_three hA
  obtain ⟨rfl, rfl⟩ := trodVars_none hV
  obtain ⟨k, rfl, rfl, rfl, w_k⟩ := open_int Try.underlying3 (hval 0 3 v0 rfl rfl) h0
  obtain ⟨a_b, len_b, cap_b, rfl⟩ := okWide_slice Try.underlying23 (hval 1 23 v1 rfl rfl)
  obtain ⟨b, h_b, w_b⟩ := open_row' Try.underlying23 Try.underlying5 (by kernel_rfl) ⟨_, rfl, rfl⟩ h1
  obtain ⟨n, rfl, rfl, rfl, w_n⟩ := open_int Try.underlying2 (hval 2 2 v2 rfl rfl) h2
  have r_k : -9223372036854775808 ≤ k ∧ k ≤ 9223372036854775807 := by
    simp only [Lit.wf, IntKind.min, IntKind.max, IntKind.signed, IntKind.bits, Bool.and_eq_true, decide_eq_true_eq] at w_k
    simpa using w_k
  have r_n : -9223372036854775808 ≤ n ∧ n ≤ 9223372036854775807 := by
    simp only [Lit.wf, IntKind.min, IntKind.max, IntKind.signed, IntKind.bits, Bool.and_eq_true, decide_eq_true_eq] at w_n
    simpa using w_n
  have hcalls := pure_of_callB z1_ok noCall_ok (m := 10) (e_law k n b (byt_of_wf w_b)) rfl (fun b _ => b < W.heap.size) W [.int .i64 k, .slice a_b len_b cap_b, .int .i64 n] (fun b _ h => h)
    (.cons (.int _ _) (.cons h_b (.cons (.int _ _) .nil)))
  refine hcalls.mono fun e W' ⟨V, he, hs, hbl, hos, hout, hV⟩ => ?_
  cases hV
  exact ⟨_, he, law_post laidOut hW' rfl rfl rfl rfl (by kernel_rfl) Try.underlying4 (by rw [Try.params7]; intro t ht; simp at ht; rcases ht with rfl | rfl | rfl <;> exact ⟨by kernel_rfl, by decide +kernel⟩) hos hout hbl⟩

theorem sampleDecodes_holds : Rows.SampleDecodesSaid :=
  OpenClaim.holds_of_wide 7 Try.f7 rfl rfl rfl rfl rfl rfl rfl ⟨rfl, rfl, rfl, rfl, rfl⟩ rfl rfl rfl rfl rfl (by kernel_rfl) Try.func7 (by kernel_rfl)
    (of_decide_eq_true (by kernel_rfl)) (by unfold Func.isWrapper; first | (rw [if_pos (by decide +kernel)]; kernel_rfl) | (rw [if_neg (by decide +kernel)]; exact ⟨rfl, rfl⟩))
    (fun os started H enc _ => sampleDecodes_lifted os started H enc)

end Go.Proofs.Ytpiolahnigdjmaa
