/- SampleBack holds for every input: bytes of 8, 16 and 24 bits come back from their samples, and samples from their bytes of 24 and 32 bits. -/
import Derived.Test.YtpiolahnigdjmaaSmG
import Derived.Test.YtpiolahnigdjmaaAmRow
import Derived.Test.YtpiolahnigdjmaaRows
namespace Go.Proofs.Ytpiolahnigdjmaa
open Am
set_option maxRecDepth 100000
set_option linter.unusedVariables false
set_option linter.unusedSimpArgs false
open Go.ChangeShapes Go.WideShapes Go.ChangeAt Go.RowKit
theorem own : ownKnob Try.prog.godebug = none := by kernel_rfl
theorem laidOut : laidOutB Try.prog = true := by kernel_rfl
theorem byt_of_wf {l : List Int} (h : ∀ n ∈ l, (Lit.int .u8 n).wf = true) : M.byt l = true := by
  simp only [M.byt, List.all_eq_true]
  intro n hn
  have := h n hn
  simpa [Lit.wf, IntKind.min, IntKind.max, IntKind.signed, IntKind.bits] using this

theorem eqL_self (l : List Int) : M.eqL l l = true := decide_eq_true rfl
theorem e_law (b s : List Int) (hb : M.byt b = true) (hs : M.byt s = true) : callB z1 noCall 10 4 [.vi .u8 b, .vi .u8 s] [] 0 = some (.bool true, [], 0) := by
  refine (show callB z1 noCall 10 4 [.vi .u8 b, .vi .u8 s] [] 0 = (bif decide ((b.length : Int) > 240) then some (.bool true, [], 0) else (bif decide (0 ≤ M.w64 (M.w64 ((b.length : Int).tdiv 6) * 6)) && decide (M.w64 (M.w64 ((b.length : Int).tdiv 6) * 6) ≤ b.length) && true then (bif M.byt (b.take ((M.w64 (M.w64 ((b.length : Int).tdiv 6) * 6)).toNat * 1)) && decide ((b.take ((M.w64 (M.w64 ((b.length : Int).tdiv 6) * 6)).toNat * 1)).length < 4294967296) && true then (bif !(M.decE 1 (b.take ((M.w64 (M.w64 ((b.length : Int).tdiv 6) * 6)).toNat * 1)) != 0) then (bif !(M.encE 1 (M.decL 1 (b.take ((M.w64 (M.w64 ((b.length : Int).tdiv 6) * 6)).toNat * 1))) != 0) then (bif !((bytesOf (b.take ((M.w64 (M.w64 ((b.length : Int).tdiv 6) * 6)).toNat * 1))).toList == (bytesOf (M.encL 1 (M.decL 1 (b.take ((M.w64 (M.w64 ((b.length : Int).tdiv 6) * 6)).toNat * 1))))).toList) then some (.bool false, [], 0) else (bif M.byt (b.take ((M.w64 (M.w64 ((b.length : Int).tdiv 6) * 6)).toNat * 1)) && decide ((b.take ((M.w64 (M.w64 ((b.length : Int).tdiv 6) * 6)).toNat * 1)).length < 4294967296) && true then (bif !(M.decE 2 (b.take ((M.w64 (M.w64 ((b.length : Int).tdiv 6) * 6)).toNat * 1)) != 0) then (bif !(M.encE 2 (M.decL 2 (b.take ((M.w64 (M.w64 ((b.length : Int).tdiv 6) * 6)).toNat * 1))) != 0) then (bif !((bytesOf (b.take ((M.w64 (M.w64 ((b.length : Int).tdiv 6) * 6)).toNat * 1))).toList == (bytesOf (M.encL 2 (M.decL 2 (b.take ((M.w64 (M.w64 ((b.length : Int).tdiv 6) * 6)).toNat * 1))))).toList) then some (.bool false, [], 0) else (bif M.byt (b.take ((M.w64 (M.w64 ((b.length : Int).tdiv 6) * 6)).toNat * 1)) && decide ((b.take ((M.w64 (M.w64 ((b.length : Int).tdiv 6) * 6)).toNat * 1)).length < 4294967296) && true then (bif !(M.decE 3 (b.take ((M.w64 (M.w64 ((b.length : Int).tdiv 6) * 6)).toNat * 1)) != 0) then (bif !(M.encE 3 (M.decL 3 (b.take ((M.w64 (M.w64 ((b.length : Int).tdiv 6) * 6)).toNat * 1))) != 0) then (bif !((bytesOf (b.take ((M.w64 (M.w64 ((b.length : Int).tdiv 6) * 6)).toNat * 1))).toList == (bytesOf (M.encL 3 (M.decL 3 (b.take ((M.w64 (M.w64 ((b.length : Int).tdiv 6) * 6)).toNat * 1))))).toList) then some (.bool false, [], 0) else (bif M.byt (b.take ((M.w64 (M.w64 ((b.length : Int).tdiv 6) * 6)).toNat * 1)) && decide ((b.take ((M.w64 (M.w64 ((b.length : Int).tdiv 6) * 6)).toNat * 1)).length < 4294967296) && true then (bif !(M.decE 4 (b.take ((M.w64 (M.w64 ((b.length : Int).tdiv 6) * 6)).toNat * 1)) != 0) then (bif !(M.encE 4 (M.decL 4 (b.take ((M.w64 (M.w64 ((b.length : Int).tdiv 6) * 6)).toNat * 1))) != 0) then (bif !((bytesOf (b.take ((M.w64 (M.w64 ((b.length : Int).tdiv 6) * 6)).toNat * 1))).toList == (bytesOf (M.encL 4 (M.decL 4 (b.take ((M.w64 (M.w64 ((b.length : Int).tdiv 6) * 6)).toNat * 1))))).toList) then some (.bool false, [], 0) else (bif M.byt (M.encL 4 (M.blkD (M.bN 1 20) (s.take 300))) && decide ((M.encL 4 (M.blkD (M.bN 1 20) (s.take 300))).length < 4294967296) && true then (bif !(M.encE 4 (M.blkD (M.bN 1 20) (s.take 300)) != 0) then (bif !(M.decE 4 (M.encL 4 (M.blkD (M.bN 1 20) (s.take 300))) != 0) then (bif decide ((M.decL 4 (M.encL 4 (M.blkD (M.bN 1 20) (s.take 300)))).length < 4294967296) && true then (bif !M.eqL (M.decL 4 (M.encL 4 (M.blkD (M.bN 1 20) (s.take 300)))) (M.blkD (M.bN 1 20) (s.take 300)) then some (.bool false, [], 0) else (bif M.byt (b.take ((M.w64 (M.w64 ((b.length : Int).tdiv 6) * 6)).toNat * 1)) && decide ((b.take ((M.w64 (M.w64 ((b.length : Int).tdiv 6) * 6)).toNat * 1)).length < 4294967296) && true then (bif !(M.decE 5 (b.take ((M.w64 (M.w64 ((b.length : Int).tdiv 6) * 6)).toNat * 1)) != 0) then (bif !(M.encE 5 (M.decL 5 (b.take ((M.w64 (M.w64 ((b.length : Int).tdiv 6) * 6)).toNat * 1))) != 0) then (bif !((bytesOf (b.take ((M.w64 (M.w64 ((b.length : Int).tdiv 6) * 6)).toNat * 1))).toList == (bytesOf (M.encL 5 (M.decL 5 (b.take ((M.w64 (M.w64 ((b.length : Int).tdiv 6) * 6)).toNat * 1))))).toList) then some (.bool false, [], 0) else (bif M.byt (M.encL 5 (M.blkD (M.bN 1 20) (s.take 300))) && decide ((M.encL 5 (M.blkD (M.bN 1 20) (s.take 300))).length < 4294967296) && true then (bif !(M.encE 5 (M.blkD (M.bN 1 20) (s.take 300)) != 0) then (bif !(M.decE 5 (M.encL 5 (M.blkD (M.bN 1 20) (s.take 300))) != 0) then (bif decide ((M.decL 5 (M.encL 5 (M.blkD (M.bN 1 20) (s.take 300)))).length < 4294967296) && true then (bif !M.eqL (M.decL 5 (M.encL 5 (M.blkD (M.bN 1 20) (s.take 300)))) (M.blkD (M.bN 1 20) (s.take 300)) then some (.bool false, [], 0) else (bif M.byt (M.encL 6 (M.blkD (M.bN 1 20) (s.take 300))) && decide ((M.encL 6 (M.blkD (M.bN 1 20) (s.take 300))).length < 4294967296) && true then (bif !(M.encE 6 (M.blkD (M.bN 1 20) (s.take 300)) != 0) then (bif !(M.decE 6 (M.encL 6 (M.blkD (M.bN 1 20) (s.take 300))) != 0) then (bif decide ((M.decL 6 (M.encL 6 (M.blkD (M.bN 1 20) (s.take 300)))).length < 4294967296) && true then (bif !M.eqL (M.decL 6 (M.encL 6 (M.blkD (M.bN 1 20) (s.take 300)))) (M.blkD (M.bN 1 20) (s.take 300)) then some (.bool false, [], 0) else (bif M.byt (M.encL 7 (M.blkD (M.bN 1 20) (s.take 300))) && decide ((M.encL 7 (M.blkD (M.bN 1 20) (s.take 300))).length < 4294967296) && true then (bif !(M.encE 7 (M.blkD (M.bN 1 20) (s.take 300)) != 0) then (bif !(M.decE 7 (M.encL 7 (M.blkD (M.bN 1 20) (s.take 300))) != 0) then (bif decide ((M.decL 7 (M.encL 7 (M.blkD (M.bN 1 20) (s.take 300)))).length < 4294967296) && true then (bif !M.eqL (M.decL 7 (M.encL 7 (M.blkD (M.bN 1 20) (s.take 300)))) (M.blkD (M.bN 1 20) (s.take 300)) then some (.bool false, [], 0) else some (.bool true, [], 0)) else none) else some (.bool false, [], 0)) else some (.bool false, [], 0)) else none)) else none) else some (.bool false, [], 0)) else some (.bool false, [], 0)) else none)) else none) else some (.bool false, [], 0)) else some (.bool false, [], 0)) else none)) else some (.bool false, [], 0)) else some (.bool false, [], 0)) else none)) else none) else some (.bool false, [], 0)) else some (.bool false, [], 0)) else none)) else some (.bool false, [], 0)) else some (.bool false, [], 0)) else none)) else some (.bool false, [], 0)) else some (.bool false, [], 0)) else none)) else some (.bool false, [], 0)) else some (.bool false, [], 0)) else none)) else some (.bool false, [], 0)) else some (.bool false, [], 0)) else none) else none)) by kernel_rfl).trans ?_
  by_cases h : (b.length : Int) > 240
  · rw [decide_eq_true h]; rfl
  · have hq : (b.length : Int).tdiv 6 = ((b.length / 6 : Nat) : Int) := rfl
    have hw : M.w64 (M.w64 ((b.length : Int).tdiv 6) * 6) = ((b.length / 6 * 6 : Nat) : Int) := by
      rw [hq, w64_in (n := ((b.length / 6 : Nat) : Int)) (by omega) (by omega), w64_in (by omega) (by omega)]; rfl
    have hB : M.byt (b.take ((M.w64 (M.w64 ((b.length : Int).tdiv 6) * 6)).toNat * 1)) = true := byt_take _ hb
    have hBl : (b.take ((M.w64 (M.w64 ((b.length : Int).tdiv 6) * 6)).toNat * 1)).length = b.length / 6 * 6 := by rw [hw, Int.toNat_natCast, List.length_take]; omega
    have hL : ∀ x ∈ M.blkD (M.bN 1 20) (s.take 300), M.smp x = true := fun x hx => smp_iff.2 ((blk_ok _ (byt_take 300 hs)).1 x hx)
    have hLl : (M.blkD (M.bN 1 20) (s.take 300)).length = 20 := blkD_length _ _
    rw [decide_eq_false h, show decide (0 ≤ M.w64 (M.w64 ((b.length : Int).tdiv 6) * 6)) = true from decide_eq_true (by rw [hw]; omega), show decide (M.w64 (M.w64 ((b.length : Int).tdiv 6) * 6) ≤ b.length) = true from decide_eq_true (by rw [hw]; omega)]
    generalize (b.take ((M.w64 (M.w64 ((b.length : Int).tdiv 6) * 6)).toNat * 1)) = B at hB hBl
    generalize M.blkD (M.bN 1 20) (s.take 300) = L at hL hLl
    have bk : ∀ k : Int, 1 ≤ k → k ≤ 5 → M.decE k B = 0 ∧ M.encE k (M.decL k B) = 0 ∧ M.encL k (M.decL k B) = B := fun k h1 h2 => back16 h1 h2 hB (by omega) (by omega)
    have th : ∀ k : Int, 4 ≤ k → k ≤ 7 → M.encE k L = 0 ∧ M.byt (M.encL k L) = true ∧ decide ((M.encL k L).length < 4294967296) = true ∧ M.decE k (M.encL k L) = 0 ∧ M.decL k (M.encL k L) = L := fun k h1 h2 => by
      obtain ⟨a, b, c, d, e⟩ := there24 h1 h2 hL (by omega)
      exact ⟨a, b, decide_eq_true (by omega), d, e⟩
    obtain ⟨a1, a2, a3⟩ := bk 1 (by omega) (by omega)
    obtain ⟨b1, b2, b3⟩ := bk 2 (by omega) (by omega)
    obtain ⟨c1, c2, c3⟩ := bk 3 (by omega) (by omega)
    obtain ⟨d1, d2, d3⟩ := bk 4 (by omega) (by omega)
    obtain ⟨f1, f2, f3⟩ := bk 5 (by omega) (by omega)
    obtain ⟨p1, p2, p3, p4, p5⟩ := th 4 (by omega) (by omega)
    obtain ⟨q1, q2, q3, q4, q5⟩ := th 5 (by omega) (by omega)
    obtain ⟨r1, r2, r3, r4, r5⟩ := th 6 (by omega) (by omega)
    obtain ⟨s1, s2, s3, s4, s5⟩ := th 7 (by omega) (by omega)
    simp only [hB, show decide (B.length < 4294967296) = true from decide_eq_true (by omega), show decide (L.length < 4294967296) = true from decide_eq_true (by omega), a1, a2, a3, b1, b2, b3, c1, c2, c3, d1, d2, d3, f1, f2, f3, p1, p2, p3, p4, p5, q1, q2, q3, q4, q5, r1, r2, r3, r4, r5, s1, s2, s3, s4, s5, eqL_self, beq_self_eq_true, bne_self_eq_false, Bool.not_true, Bool.not_false, Bool.and_true, cond_true, cond_false]

theorem sampleBack_lifted (os : Os) (started : os.Started) (H : Type) (enc : TypeId × Value → H) :
    ReturnsInHanded {} Try.checked os 4 .any (Rows.sampleBackSpec.pre6 enc Try.prog Try.f4 Rows.sampleBackRow.domain false) (Rows.sampleBackSpec.post enc Try.prog Try.f4 false true false false) := by
  refine returnsInHanded_of_change (C := Try.checked) own started (by kernel_rfl) Try.func4
    (ChangeSpec.witness6 (enc := enc) (C := Try.checked) false ⟨#[], #[.slice none 0 0, .slice none 0 0], []⟩ 8 (by kernel_rfl) (by kernel_rfl) (by kernel_rfl) (by kernel_rfl)) ?_
  intro W base args ds gs before hval0 hW hcnd _
  have hval : ∀ (j : Nat) t v, Try.f4.params[j]? = some t → args[j]? = some v → Value.okWide Try.prog W .any base t v := hval0
  have hW' := hW
  obtain ⟨p, q, hA0, hV, rfl, hfz, hnd⟩ := hW
  have hA : DataW.TrodAll enc Try.prog W 0 (fun _ => true) true Try.f4.params.toList args.toList ds p := hA0
  rw [Try.params4] at hA hval
  obtain ⟨v0, v1, d0, d1, p0, p1, rfl, rfl, rfl, h0, h1⟩ := trodAll_two hA
  obtain ⟨rfl, rfl⟩ := trodVars_none hV
  obtain ⟨a_b, len_b, cap_b, rfl⟩ := okWide_slice Try.underlying23 (hval 0 23 v0 rfl rfl)
  obtain ⟨b, h_b, w_b⟩ := open_row' Try.underlying23 Try.underlying5 (by kernel_rfl) ⟨_, rfl, rfl⟩ h0
  obtain ⟨a_s, len_s, cap_s, rfl⟩ := okWide_slice Try.underlying23 (hval 1 23 v1 rfl rfl)
  obtain ⟨s, h_s, w_s⟩ := open_row' Try.underlying23 Try.underlying5 (by kernel_rfl) ⟨_, rfl, rfl⟩ h1
  have hcalls := pure_of_callB z1_ok noCall_ok (m := 10) (e_law b s (byt_of_wf w_b) (byt_of_wf w_s)) rfl (fun b _ => b < W.heap.size) W [.slice a_b len_b cap_b, .slice a_s len_s cap_s] (fun b _ h => h)
    (.cons h_b (.cons h_s .nil))
  refine hcalls.mono fun e W' ⟨V, he, hs, hbl, hos, hout, hV⟩ => ?_
  cases hV
  exact ⟨_, he, law_post laidOut hW' rfl rfl rfl rfl (by kernel_rfl) Try.underlying4 (by rw [Try.params4]; intro t ht; simp at ht; subst ht; exact ⟨by kernel_rfl, by decide +kernel⟩) hos hout hbl⟩

theorem sampleBack_holds : Rows.SampleBackSaid :=
  OpenClaim.holds_of_wide 4 Try.f4 rfl rfl rfl rfl rfl rfl rfl ⟨rfl, rfl, rfl, rfl, rfl⟩ rfl rfl rfl rfl rfl (by kernel_rfl) Try.func4 (by kernel_rfl)
    (of_decide_eq_true (by kernel_rfl)) (by unfold Func.isWrapper; first | (rw [if_pos (by decide +kernel)]; kernel_rfl) | (rw [if_neg (by decide +kernel)]; exact ⟨rfl, rfl⟩))
    (fun os started H enc _ => sampleBack_lifted os started H enc)

end Go.Proofs.Ytpiolahnigdjmaa
