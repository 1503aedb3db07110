/- SampleEncodes holds for every input: the bytes of samples, or the error. -/
import Derived.Test.YtpiolahnigdjmaaSmS
import Derived.Test.YtpiolahnigdjmaaAmRow
import Derived.Test.YtpiolahnigdjmaaRows
namespace Go.Proofs.Ytpiolahnigdjmaa
open Am
set_option maxRecDepth 100000
set_option linter.unusedVariables false
set_option linter.unusedSimpArgs false
open Go.ChangeShapes Go.WideShapes Go.ChangeAt Go.RowKit
theorem own : ownKnob Try.prog.godebug = none := by kernel_rfl
theorem laidOut : laidOutB Try.prog = true := by kernel_rfl
theorem byt_of_wf {l : List Int} (h : ∀ n ∈ l, (Lit.int .u8 n).wf = true) : M.byt l = true := by
  simp only [M.byt, List.all_eq_true]
  intro n hn
  have := h n hn
  simpa [Lit.wf, IntKind.min, IntKind.max, IntKind.signed, IntKind.bits] using this

theorem e_law (k : Int) (raw b : List Int) : callB z1 noCall 10 3 [.int .i64 k, .vi .i32 raw, .vi .u8 b] [] 0 = some (.bool true, [], 0) := by
  refine (show callB z1 noCall 10 3 [.int .i64 k, .vi .i32 raw, .vi .u8 b] [] 0 = (bif decide ((raw.length : Int) > 300) then some (.bool true, [], 0) else (bif !!((bytesOf (M.encL k raw)).toList == (bytesOf (M.encL k raw)).toList) then (bif M.encE k raw != M.encE k raw then some (.bool false, [], 0) else (bif !!((bytesOf (M.encL k (M.blkD (M.bN 1 20) (b.take 300)))).toList == (bytesOf (M.encL k (M.blkD (M.bN 1 20) (b.take 300)))).toList) then (bif M.encE k (M.blkD (M.bN 1 20) (b.take 300)) != M.encE k (M.blkD (M.bN 1 20) (b.take 300)) then some (.bool false, [], 0) else (bif !!((bytesOf (M.encL (M.w64 (1 + (M.w64 (k.tmod 7 + 7)).tmod 7)) raw)).toList == (bytesOf (M.encL (M.w64 (1 + (M.w64 (k.tmod 7 + 7)).tmod 7)) raw)).toList) then (bif M.encE (M.w64 (1 + (M.w64 (k.tmod 7 + 7)).tmod 7)) raw != M.encE (M.w64 (1 + (M.w64 (k.tmod 7 + 7)).tmod 7)) raw then some (.bool false, [], 0) else (bif !!((bytesOf (M.encL (M.w64 (1 + (M.w64 (k.tmod 7 + 7)).tmod 7)) (M.blkD (M.bN 1 20) (b.take 300)))).toList == (bytesOf (M.encL (M.w64 (1 + (M.w64 (k.tmod 7 + 7)).tmod 7)) (M.blkD (M.bN 1 20) (b.take 300)))).toList) then (bif M.encE (M.w64 (1 + (M.w64 (k.tmod 7 + 7)).tmod 7)) (M.blkD (M.bN 1 20) (b.take 300)) != M.encE (M.w64 (1 + (M.w64 (k.tmod 7 + 7)).tmod 7)) (M.blkD (M.bN 1 20) (b.take 300)) then some (.bool false, [], 0) else some (.bool true, [], 0)) else some (.bool false, [], 0))) else some (.bool false, [], 0))) else some (.bool false, [], 0))) else some (.bool false, [], 0))) by kernel_rfl).trans ?_
  simp only [beq_self_eq_true, bne_self_eq_false, Bool.not_true, Bool.not_false, cond_true, cond_false]
  cases decide ((raw.length : Int) > 300) <;> rfl

theorem sampleEncodes_lifted (os : Os) (started : os.Started) (H : Type) (enc : TypeId × Value → H) :
    ReturnsInHanded {} Try.checked os 3 .any (Rows.sampleEncodesSpec.pre6 enc Try.prog Try.f3 Rows.sampleEncodesRow.domain false) (Rows.sampleEncodesSpec.post enc Try.prog Try.f3 false true false false) := by
  refine returnsInHanded_of_change (C := Try.checked) own started (by kernel_rfl) Try.func3
    (ChangeSpec.witness6 (enc := enc) (C := Try.checked) false ⟨#[], #[.int .i64 0, .slice none 0 0, .slice none 0 0], []⟩ 8 (by kernel_rfl) (by kernel_rfl) (by kernel_rfl) (by kernel_rfl)) ?_
  intro W base args ds gs before hval0 hW hcnd _
  have hval : ∀ (j : Nat) t v, Try.f3.params[j]? = some t → args[j]? = some v → Value.okWide Try.prog W .any base t v := hval0
  have hW' := hW
  obtain ⟨p, q, hA0, hV, rfl, hfz, hnd⟩ := hW
  have hA : DataW.TrodAll enc Try.prog W 0 (fun _ => true) true Try.f3.params.toList args.toList ds p := hA0
  rw [Try.params3] at hA hval
  obtain ⟨v0, v1, v2, d0, d1, d2, p0, p1, p2, rfl, rfl, rfl, h0, h1, h2⟩ := trodAll_three hA
  obtain ⟨rfl, rfl⟩ := trodVars_none hV
  obtain ⟨k, rfl, rfl, rfl, w_k⟩ := open_int Try.underlying3 (hval 0 3 v0 rfl rfl) h0
  obtain ⟨a_raw, len_raw, cap_raw, rfl⟩ := okWide_slice Try.underlying22 (hval 1 22 v1 rfl rfl)
  obtain ⟨raw, h_raw, w_raw⟩ := open_row' Try.underlying22 Try.underlying21 (by kernel_rfl) ⟨_, rfl, rfl⟩ h1
  obtain ⟨a_b, len_b, cap_b, rfl⟩ := okWide_slice Try.underlying23 (hval 2 23 v2 rfl rfl)
  obtain ⟨b, h_b, w_b⟩ := open_row' Try.underlying23 Try.underlying5 (by kernel_rfl) ⟨_, rfl, rfl⟩ h2
  have r_k : -9223372036854775808 ≤ k ∧ k ≤ 9223372036854775807 := by
    simp only [Lit.wf, IntKind.min, IntKind.max, IntKind.signed, IntKind.bits, Bool.and_eq_true, decide_eq_true_eq] at w_k
    simpa using w_k
  have hcalls := pure_of_callB z1_ok noCall_ok (m := 10) (e_law k raw b) rfl (fun b _ => b < W.heap.size) W [.int .i64 k, .slice a_raw len_raw cap_raw, .slice a_b len_b cap_b] (fun b _ h => h)
    (.cons (.int _ _) (.cons h_raw (.cons h_b .nil)))
  refine hcalls.mono fun e W' ⟨V, he, hs, hbl, hos, hout, hV⟩ => ?_
  cases hV
  exact ⟨_, he, law_post laidOut hW' rfl rfl rfl rfl (by kernel_rfl) Try.underlying4 (by rw [Try.params3]; intro t ht; simp at ht; rcases ht with rfl | rfl | rfl <;> exact ⟨by kernel_rfl, by decide +kernel⟩) hos hout hbl⟩

theorem sampleEncodes_holds : Rows.SampleEncodesSaid :=
  OpenClaim.holds_of_wide 3 Try.f3 rfl rfl rfl rfl rfl rfl rfl ⟨rfl, rfl, rfl, rfl, rfl⟩ rfl rfl rfl rfl rfl (by kernel_rfl) Try.func3 (by kernel_rfl)
    (of_decide_eq_true (by kernel_rfl)) (by unfold Func.isWrapper; first | (rw [if_pos (by decide +kernel)]; kernel_rfl) | (rw [if_neg (by decide +kernel)]; exact ⟨rfl, rfl⟩))
    (fun os started H enc _ => sampleEncodes_lifted os started H enc)

end Go.Proofs.Ytpiolahnigdjmaa
