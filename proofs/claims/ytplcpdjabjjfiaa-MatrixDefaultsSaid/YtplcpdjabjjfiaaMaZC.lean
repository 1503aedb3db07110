/- MatrixDefaults holds for every input: the matrix between any two maps, or the error. -/
import Derived.Test.YtplcpdjabjjfiaaMaK
import Derived.Test.YtplcpdjabjjfiaaAmRow
import Derived.Test.YtplcpdjabjjfiaaRows
namespace Go.Proofs.Ytplcpdjabjjfiaa
open Am
set_option maxRecDepth 100000
set_option linter.unusedVariables false
set_option linter.unusedSimpArgs false
open Go.ChangeShapes Go.WideShapes Go.ChangeAt Go.RowKit
theorem own : ownKnob Try.prog.godebug = none := by kernel_rfl
theorem laidOut : laidOutB Try.prog = true := by kernel_rfl
theorem byt_of_wf {l : List Int} (h : ∀ n ∈ l, (Lit.int .u8 n).wf = true) : M.byt l = true := by
  simp only [M.byt, List.all_eq_true]
  intro n hn
  have := h n hn
  simpa [Lit.wf, IntKind.min, IntKind.max, IntKind.signed, IntKind.bits] using this

theorem dfl_len (a b : List Int) : (M.dfl a b).length < 4294967296 := by
  unfold M.dfl M.dflE
  cases ha : M.mapV a with
  | false => exact Nat.zero_lt_succ _
  | true =>
  cases hb : M.mapV b with
  | false => exact Nat.zero_lt_succ _
  | true =>
  show (M.dflC a b a.length).length < 4294967296
  have := dfl_prod ha hb
  rw [dflC_length]; omega
theorem e_law (a b : List Int) : callB g7 noCall 10 4 [.vi .i64 a, .vi .i64 b] [] 0 = some (.bool true, [], 0) := by
  refine (show callB g7 noCall 10 4 [.vi .i64 a, .vi .i64 b] [] 0 = (bif !decide ((a.length : Int) > 12) then (bif decide ((b.length : Int) > 12) then some (.bool true, [], 0) else (bif decide (a.length < 4294967296) && decide (b.length < 4294967296) && true then (bif decide (a.length < 4294967296) && decide (b.length < 4294967296) && true then (bif M.dflE a b == M.dflE a b then (bif decide ((M.dfl a b).length < 4294967296) && true then some (.bool (M.sameM (M.dflI a b) (M.dflO a b) (M.dfl a b) (M.dflI a b) (M.dflO a b) (M.dfl a b)), [], 0) else none) else some (.bool false, [], 0)) else none) else none)) else some (.bool true, [], 0)) by kernel_rfl).trans ?_
  by_cases ha : (a.length : Int) > 12
  · rw [decide_eq_true ha]; rfl
  · by_cases hb : (b.length : Int) > 12
    · rw [decide_eq_false ha, decide_eq_true hb]; rfl
    · rw [decide_eq_false ha, decide_eq_false hb, decide_eq_true (by omega : a.length < 4294967296), decide_eq_true (by omega : b.length < 4294967296), decide_eq_true (dfl_len a b), beq_self_eq_true, sameM_self]; rfl

theorem matrixDefaults_lifted (os : Os) (started : os.Started) (H : Type) (enc : TypeId × Value → H) :
    ReturnsInHanded {} Try.checked os 4 .any (Rows.matrixDefaultsSpec.pre6 enc Try.prog Try.f4 Rows.matrixDefaultsRow.domain false) (Rows.matrixDefaultsSpec.post enc Try.prog Try.f4 false true false false) := by
  refine returnsInHanded_of_change (C := Try.checked) own started (by kernel_rfl) Try.func4
    (ChangeSpec.witness6 (enc := enc) (C := Try.checked) false ⟨#[], #[.slice none 0 0, .slice none 0 0], []⟩ 8 (by kernel_rfl) (by kernel_rfl) (by kernel_rfl) (by kernel_rfl)) ?_
  intro W base args ds gs before hval0 hW hcnd _
  have hval : ∀ (j : Nat) t v, Try.f4.params[j]? = some t → args[j]? = some v → Value.okWide Try.prog W .any base t v := hval0
  have hW' := hW
  obtain ⟨p, q, hA0, hV, rfl, hfz, hnd⟩ := hW
  have hA : DataW.TrodAll enc Try.prog W 0 (fun _ => true) true Try.f4.params.toList args.toList ds p := hA0
  rw [Try.params4] at hA hval
  obtain ⟨v0, v1, d0, d1, p0, p1, rfl, rfl, rfl, h0, h1⟩ := trodAll_two hA
  obtain ⟨rfl, rfl⟩ := trodVars_none hV
  obtain ⟨a_a, len_a, cap_a, rfl⟩ := okWide_slice Try.underlying22 (hval 0 22 v0 rfl rfl)
  obtain ⟨a, h_a, w_a⟩ := open_row' Try.underlying22 Try.underlying3 (by kernel_rfl) ⟨_, rfl, rfl⟩ h0
  obtain ⟨a_b, len_b, cap_b, rfl⟩ := okWide_slice Try.underlying22 (hval 1 22 v1 rfl rfl)
  obtain ⟨b, h_b, w_b⟩ := open_row' Try.underlying22 Try.underlying3 (by kernel_rfl) ⟨_, rfl, rfl⟩ h1
  have hcalls := pure_of_callB g7_ok noCall_ok (m := 10) (e_law a b) rfl (fun b _ => b < W.heap.size) W [.slice a_a len_a cap_a, .slice a_b len_b cap_b] (fun b _ h => h)
    (.cons h_a (.cons h_b .nil))
  refine hcalls.mono fun e W' ⟨V, he, hs, hbl, hos, hout, hV⟩ => ?_
  cases hV
  exact ⟨_, he, law_post laidOut hW' rfl rfl rfl rfl (by kernel_rfl) Try.underlying4 (by rw [Try.params4]; intro t ht; simp at ht; subst ht; exact ⟨by kernel_rfl, by decide +kernel⟩) hos hout hbl⟩

theorem matrixDefaults_holds : Rows.MatrixDefaultsSaid :=
  OpenClaim.holds_of_wide 4 Try.f4 rfl rfl rfl rfl rfl rfl rfl ⟨rfl, rfl, rfl, rfl, rfl⟩ rfl rfl rfl rfl rfl (by kernel_rfl) Try.func4 (by kernel_rfl)
    (of_decide_eq_true (by kernel_rfl)) (by unfold Func.isWrapper; first | (rw [if_pos (by decide +kernel)]; kernel_rfl) | (rw [if_neg (by decide +kernel)]; exact ⟨rfl, rfl⟩))
    (fun os started H enc _ => matrixDefaults_lifted os started H enc)

end Go.Proofs.Ytplcpdjabjjfiaa
