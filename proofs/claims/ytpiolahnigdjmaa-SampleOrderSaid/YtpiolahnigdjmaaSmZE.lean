/- SampleOrder holds for every input: encoding and decoding never change the order of two samples, and change a sample by at most half a step of the encoding, apart from its greatest values. -/
import Derived.Test.YtpiolahnigdjmaaSmF
import Derived.Test.YtpiolahnigdjmaaAmRow
import Derived.Test.YtpiolahnigdjmaaRows
namespace Go.Proofs.Ytpiolahnigdjmaa
open Am
set_option maxRecDepth 100000
set_option linter.unusedVariables false
set_option linter.unusedSimpArgs false
open Go.ChangeShapes Go.WideShapes Go.ChangeAt Go.RowKit
theorem own : ownKnob Try.prog.godebug = none := by kernel_rfl
theorem laidOut : laidOutB Try.prog = true := by kernel_rfl
theorem byt_of_wf {l : List Int} (h : ∀ n ∈ l, (Lit.int .u8 n).wf = true) : M.byt l = true := by
  simp only [M.byt, List.all_eq_true]
  intro n hn
  have := h n hn
  simpa [Lit.wf, IntKind.min, IntKind.max, IntKind.signed, IntKind.bits] using this

namespace M
def oK (k : Int) : Int := w64 (1 + (w64 k).tmod 7)
def oX (b : Int) : Int := sat (w64 b)
def oE (k b x : Int) : List Int := enc2 (oK k) (oX b) (oX x)
def o0 (k b x : Int) : Int := d0 (oK k) (oE k b x)
def o1 (k b x : Int) : Int := d1 (oK k) (oE k b x)
def oH (k : Int) : Int := [0, 32768, 128, 128, 0, 0, 0, 0].getD (oK k).toNat 0
end M
theorem again_mono (sz : Int) {x y : Int} (hx : M.smp x = true) (hy : M.smp y = true) (h : x ≤ y) : again sz x ≤ again sz y := by
  unfold again
  simp only [num_eq hx, num_eq hy, sat_eq]
  rw [smp_iff] at hx hy
  by_cases h1 : sz = 1
  · subst h1; simp; repeat' split
    all_goals omega
  · by_cases h2 : sz = 2
    · subst h2; simp; repeat' split
      all_goals omega
    · by_cases h4 : sz = 4
      · subst h4; simp; repeat' split
        all_goals omega
      · simp only [h1, h2, h4, if_false]; simp; repeat' split
        all_goals omega
theorem nr_ok {x y h : Int} (hx : M.smp x = true) (hy : M.smp y = true) (h0 : 0 ≤ h) (h1 : h ≤ 65536) (hn : (-h ≤ x - y ∧ x - y ≤ h) ∨ (x > 8388607 - 2 * h ∧ y ≤ x)) : M.nr x y h = true := by
  rw [smp_iff] at hx hy
  unfold M.nr
  rw [w32_in (n := x - y) (by omega) (by omega), w32_in (n := 0 - h) (by omega) (by omega), w32_in (n := 2 * h) (by omega) (by omega), w32_in (n := 8388607 - 2 * h) (by omega) (by omega), Bool.or_eq_true, Bool.and_eq_true, Bool.and_eq_true]
  simp only [decide_eq_true_eq]
  omega
theorem near_again {k x : Int} (h1 : 1 ≤ k) (h2 : k ≤ 7) (hx : M.smp x = true) : M.nr x (again (M.fsz k) x) ([0, 32768, 128, 128, 0, 0, 0, 0].getD k.toNat 0) = true := by
  have hy : M.smp (again (M.fsz k) x) = true := sat_smp _
  have h := hx
  rw [smp_iff] at h
  have e1 : again 1 x = if x < 8355840 then (x + 32768) / 65536 * 65536 else 8323072 := by
    unfold again; simp only [num_eq hx, sat_eq]; simp; repeat' split
    all_goals omega
  have e2 : again 2 x = if x < 8388480 then (x + 128) / 256 * 256 else 8388352 := by
    unfold again; simp only [num_eq hx, sat_eq]; simp; repeat' split
    all_goals omega
  rcases kinds k with rfl | rfl | rfl | rfl | rfl | rfl | rfl | ⟨a1, a2, a3, a4, a5, a6, a7⟩
  · refine nr_ok hx hy (by decide) (by decide) ?_
    show (-32768 ≤ x - again 1 x ∧ x - again 1 x ≤ 32768) ∨ (x > 8388607 - 2 * 32768 ∧ again 1 x ≤ x)
    rw [e1]; split <;> omega
  · refine nr_ok hx hy (by decide) (by decide) ?_
    show (-128 ≤ x - again 2 x ∧ x - again 2 x ≤ 128) ∨ (x > 8388607 - 2 * 128 ∧ again 2 x ≤ x)
    rw [e2]; split <;> omega
  · refine nr_ok hx hy (by decide) (by decide) ?_
    show (-128 ≤ x - again 2 x ∧ x - again 2 x ≤ 128) ∨ (x > 8388607 - 2 * 128 ∧ again 2 x ≤ x)
    rw [e2]; split <;> omega
  · refine nr_ok hx hy (by decide) (by decide) ?_
    show (-0 ≤ x - again 3 x ∧ x - again 3 x ≤ 0) ∨ _
    rw [again_id (.inl rfl) hx]; omega
  · refine nr_ok hx hy (by decide) (by decide) ?_
    show (-0 ≤ x - again 3 x ∧ x - again 3 x ≤ 0) ∨ _
    rw [again_id (.inl rfl) hx]; omega
  · refine nr_ok hx hy (by decide) (by decide) ?_
    show (-0 ≤ x - again 4 x ∧ x - again 4 x ≤ 0) ∨ _
    rw [again_id (.inr rfl) hx]; omega
  · refine nr_ok hx hy (by decide) (by decide) ?_
    show (-0 ≤ x - again 4 x ∧ x - again 4 x ≤ 0) ∨ _
    rw [again_id (.inr rfl) hx]; omega
  · simp at a1 a2 a3 a4 a5 a6 a7; omega
theorem two_dec {k x y : Int} (h1 : 1 ≤ k) (h2 : k ≤ 7) (hx : M.smp x = true) (hy : M.smp y = true) : M.d0 k (M.enc2 k x y) = again (M.fsz k) x ∧ M.d1 k (M.enc2 k x y) = again (M.fsz k) y ∧ M.okTwo k (M.enc2 k x y) = true := by
  have hf := kind_okF h1 h2
  have l1 : (M.encS (M.fsz k) (M.fbg k) x).length = (M.fsz k).toNat := wr_len _ _ _
  have l2 : (M.encS (M.fsz k) (M.fbg k) y).length = (M.fsz k).toNat := wr_len _ _ _
  have b1 : M.byt (M.encS (M.fsz k) (M.fbg k) x) = true := byt_wr _ _ _
  have b2 : M.byt (M.encS (M.fsz k) (M.fbg k) y) = true := byt_wr _ _ _
  refine ⟨?_, ?_, ?_⟩
  · unfold M.d0 M.enc2
    rw [List.take_left' l1, dec_enc hf hx]
  · unfold M.d1 M.enc2
    rw [List.drop_left' l1, dec_enc hf hy]
  · unfold M.okTwo M.enc2
    rw [List.length_append, l1, l2, decide_eq_true h1, decide_eq_true h2, decide_eq_true (by omega)]
    unfold M.byt at b1 b2 ⊢
    rw [List.all_append, b1, b2]; rfl
theorem e_law (b x k : Int) (hk : 0 ≤ k) (hk2 : k ≤ 255) : callB y3 noCall 10 5 [.int .i32 b, .int .i32 x, .int .u8 k] [] 0 = some (.bool true, [], 0) := by
  refine (show callB y3 noCall 10 5 [.int .i32 b, .int .i32 x, .int .u8 k] [] 0 = (bif M.okO ((M.oK k)) ((M.oX b)) ((M.oX x)) && true then bif M.okTwo ((M.oK k)) (M.oE k b x) && true then bif decide (0 ≤ (M.oK k)) && decide ((M.oK k) < 8) && true then bif !(M.oX b) == (M.oX x) then bif decide (M.o0 k b x ≤ M.o1 k b x) then bif decide ((M.oX b) ≤ (M.oX x)) == decide ((M.oX b) < (M.oX x)) then bif !decide ((M.oX b) > (M.oX x)) then bif decide (M.o0 k b x ≤ M.o1 k b x) then bif !decide ((M.oX b) < (M.oX x)) then bif decide (M.o0 k b x ≥ M.o1 k b x) then bif M.nr ((M.oX b)) (M.o0 k b x) (M.oH k) then some (AV.bool (M.nr ((M.oX x)) (M.o1 k b x) (M.oH k)), [], 0) else some (AV.bool false, [], 0) else some (AV.bool false, [], 0) else bif M.nr ((M.oX b)) (M.o0 k b x) (M.oH k) then some (AV.bool (M.nr ((M.oX x)) (M.o1 k b x) (M.oH k)), [], 0) else some (AV.bool false, [], 0) else some (AV.bool false, [], 0) else bif !decide ((M.oX b) < (M.oX x)) then bif decide (M.o0 k b x ≥ M.o1 k b x) then bif M.nr ((M.oX b)) (M.o0 k b x) (M.oH k) then some (AV.bool (M.nr ((M.oX x)) (M.o1 k b x) (M.oH k)), [], 0) else some (AV.bool false, [], 0) else some (AV.bool false, [], 0) else bif M.nr ((M.oX b)) (M.o0 k b x) (M.oH k) then some (AV.bool (M.nr ((M.oX x)) (M.o1 k b x) (M.oH k)), [], 0) else some (AV.bool false, [], 0) else some (AV.bool false, [], 0) else bif decide ((M.oX b) ≤ (M.oX x)) == false then bif !decide ((M.oX b) > (M.oX x)) then bif decide (M.o0 k b x ≤ M.o1 k b x) then bif !decide ((M.oX b) < (M.oX x)) then bif decide (M.o0 k b x ≥ M.o1 k b x) then bif M.nr ((M.oX b)) (M.o0 k b x) (M.oH k) then some (AV.bool (M.nr ((M.oX x)) (M.o1 k b x) (M.oH k)), [], 0) else some (AV.bool false, [], 0) else some (AV.bool false, [], 0) else bif M.nr ((M.oX b)) (M.o0 k b x) (M.oH k) then some (AV.bool (M.nr ((M.oX x)) (M.o1 k b x) (M.oH k)), [], 0) else some (AV.bool false, [], 0) else some (AV.bool false, [], 0) else bif !decide ((M.oX b) < (M.oX x)) then bif decide (M.o0 k b x ≥ M.o1 k b x) then bif M.nr ((M.oX b)) (M.o0 k b x) (M.oH k) then some (AV.bool (M.nr ((M.oX x)) (M.o1 k b x) (M.oH k)), [], 0) else some (AV.bool false, [], 0) else some (AV.bool false, [], 0) else bif M.nr ((M.oX b)) (M.o0 k b x) (M.oH k) then some (AV.bool (M.nr ((M.oX x)) (M.o1 k b x) (M.oH k)), [], 0) else some (AV.bool false, [], 0) else some (AV.bool false, [], 0) else bif decide ((M.oX b) ≤ (M.oX x)) == true then bif !decide ((M.oX b) > (M.oX x)) then bif decide (M.o0 k b x ≤ M.o1 k b x) then bif !decide ((M.oX b) < (M.oX x)) then bif decide (M.o0 k b x ≥ M.o1 k b x) then bif M.nr ((M.oX b)) (M.o0 k b x) (M.oH k) then some (AV.bool (M.nr ((M.oX x)) (M.o1 k b x) (M.oH k)), [], 0) else some (AV.bool false, [], 0) else some (AV.bool false, [], 0) else bif M.nr ((M.oX b)) (M.o0 k b x) (M.oH k) then some (AV.bool (M.nr ((M.oX x)) (M.o1 k b x) (M.oH k)), [], 0) else some (AV.bool false, [], 0) else some (AV.bool false, [], 0) else bif !decide ((M.oX b) < (M.oX x)) then bif decide (M.o0 k b x ≥ M.o1 k b x) then bif M.nr ((M.oX b)) (M.o0 k b x) (M.oH k) then some (AV.bool (M.nr ((M.oX x)) (M.o1 k b x) (M.oH k)), [], 0) else some (AV.bool false, [], 0) else some (AV.bool false, [], 0) else bif M.nr ((M.oX b)) (M.o0 k b x) (M.oH k) then some (AV.bool (M.nr ((M.oX x)) (M.o1 k b x) (M.oH k)), [], 0) else some (AV.bool false, [], 0) else some (AV.bool false, [], 0) else none else none else none) by kernel_rfl).trans ?_
  have hx : M.smp (M.oX b) = true := sat_smp _
  have hy : M.smp (M.oX x) = true := sat_smp _
  have h7 := Int.tmod_lt_of_pos k (show (0 : Int) < 7 by omega)
  have h8 := Int.tmod_nonneg 7 hk
  have hK : 1 ≤ M.oK k ∧ M.oK k ≤ 7 := by
    unfold M.oK
    rw [w64_in (n := k) (by omega) (by omega), w64_in (n := 1 + k.tmod 7) (by omega) (by omega)]; omega
  obtain ⟨e0, e1, e2⟩ := two_dec hK.1 hK.2 hx hy
  have f0 : M.o0 k b x = again (M.fsz (M.oK k)) (M.oX b) := e0
  have f1 : M.o1 k b x = again (M.fsz (M.oK k)) (M.oX x) := e1
  have f2 : M.okTwo (M.oK k) (M.oE k b x) = true := e2
  have f3 : M.okO (M.oK k) (M.oX b) (M.oX x) = true := by unfold M.okO; rw [decide_eq_true hK.1, decide_eq_true hK.2, hx, hy]; rfl
  have n0 : M.nr (M.oX b) (again (M.fsz (M.oK k)) (M.oX b)) (M.oH k) = true := near_again hK.1 hK.2 hx
  have n1 : M.nr (M.oX x) (again (M.fsz (M.oK k)) (M.oX x)) (M.oH k) = true := near_again hK.1 hK.2 hy
  rw [f0, f1, f2, f3, n0, n1, decide_eq_true (by omega : 0 ≤ M.oK k), decide_eq_true (by omega : M.oK k < 8)]
  have m1 := fun h => again_mono (M.fsz (M.oK k)) hx hy h
  have m2 := fun h => again_mono (M.fsz (M.oK k)) hy hx h
  generalize again (M.fsz (M.oK k)) (M.oX b) = L0 at *
  generalize again (M.fsz (M.oK k)) (M.oX x) = L1 at *
  generalize M.oX b = X at *
  generalize M.oX x = Y at *
  by_cases h : X < Y
  · have := m1 (by omega)
    simp only [show (X == Y) = false by simp; omega, show decide (X ≤ Y) = true from decide_eq_true (by omega), show decide (X < Y) = true from decide_eq_true h, show decide (X > Y) = false from decide_eq_false (by omega), show decide (L0 ≤ L1) = true from decide_eq_true (by omega)]
    rfl
  · by_cases he : X = Y
    · have a := m1 (by omega)
      have b := m2 (by omega)
      simp only [show (X == Y) = true by simp [he], show decide (X ≤ Y) = true from decide_eq_true (by omega), show decide (X < Y) = false from decide_eq_false h, show decide (X > Y) = false from decide_eq_false (by omega), show decide (L0 ≤ L1) = true from decide_eq_true (by omega), show decide (L0 ≥ L1) = true from decide_eq_true (by omega)]
      rfl
    · have := m2 (by omega)
      simp only [show (X == Y) = false by simp [he], show decide (X ≤ Y) = false from decide_eq_false (by omega), show decide (X < Y) = false from decide_eq_false h, show decide (X > Y) = true from decide_eq_true (by omega), show decide (L0 ≥ L1) = true from decide_eq_true (by omega)]
      cases decide (L0 ≤ L1) <;> rfl

theorem sampleOrder_lifted (os : Os) (started : os.Started) (H : Type) (enc : TypeId × Value → H) :
    ReturnsInHanded {} Try.checked os 5 .any (Rows.sampleOrderSpec.pre6 enc Try.prog Try.f5 Rows.sampleOrderRow.domain false) (Rows.sampleOrderSpec.post enc Try.prog Try.f5 false true false false) := by
  refine returnsInHanded_of_change (C := Try.checked) own started (by kernel_rfl) Try.func5
    (ChangeSpec.witness6 (enc := enc) (C := Try.checked) false ⟨#[], #[.int .i32 0, .int .i32 0, .int .u8 0], []⟩ 8 (by kernel_rfl) (by kernel_rfl) (by kernel_rfl) (by kernel_rfl)) ?_
  intro W base args ds gs before hval0 hW hcnd _
  have hval : ∀ (j : Nat) t v, Try.f5.params[j]? = some t → args[j]? = some v → Value.okWide Try.prog W .any base t v := hval0
  have hW' := hW
  obtain ⟨p, q, hA0, hV, rfl, hfz, hnd⟩ := hW
  have hA : DataW.TrodAll enc Try.prog W 0 (fun _ => true) true Try.f5.params.toList args.toList ds p := hA0
  rw [Try.params5] at hA hval
  obtain ⟨v0, v1, v2, d0, d1, d2, p0, p1, p2, rfl, rfl, rfl, h0, h1, h2⟩ := trodAll_three hA
  obtain ⟨rfl, rfl⟩ := trodVars_none hV
  obtain ⟨b, rfl, rfl, rfl, w_b⟩ := open_int Try.underlying21 (hval 0 21 v0 rfl rfl) h0
  obtain ⟨x, rfl, rfl, rfl, w_x⟩ := open_int Try.underlying21 (hval 1 21 v1 rfl rfl) h1
  obtain ⟨k, rfl, rfl, rfl, w_k⟩ := open_int Try.underlying5 (hval 2 5 v2 rfl rfl) h2
  have r_b : -2147483648 ≤ b ∧ b ≤ 2147483647 := by
    simp only [Lit.wf, IntKind.min, IntKind.max, IntKind.signed, IntKind.bits, Bool.and_eq_true, decide_eq_true_eq] at w_b
    simpa using w_b
  have r_x : -2147483648 ≤ x ∧ x ≤ 2147483647 := by
    simp only [Lit.wf, IntKind.min, IntKind.max, IntKind.signed, IntKind.bits, Bool.and_eq_true, decide_eq_true_eq] at w_x
    simpa using w_x
  have r_k : 0 ≤ k ∧ k ≤ 255 := by
    simp only [Lit.wf, IntKind.min, IntKind.max, IntKind.signed, IntKind.bits, Bool.and_eq_true, decide_eq_true_eq] at w_k
    simpa using w_k
  have hcalls := pure_of_callB y3_ok noCall_ok (m := 10) (e_law b x k r_k.1 r_k.2) rfl (fun b _ => b < W.heap.size) W [.int .i32 b, .int .i32 x, .int .u8 k] (fun b _ h => h)
    (.cons (.int _ _) (.cons (.int _ _) (.cons (.int _ _) .nil)))
  refine hcalls.mono fun e W' ⟨V, he, hs, hbl, hos, hout, hV⟩ => ?_
  cases hV
  exact ⟨_, he, law_post laidOut hW' rfl rfl rfl rfl (by kernel_rfl) Try.underlying4 (by rw [Try.params5]; intro t ht; simp at ht; rcases ht with rfl | rfl <;> exact ⟨by kernel_rfl, by decide +kernel⟩) hos hout hbl⟩

theorem sampleOrder_holds : Rows.SampleOrderSaid :=
  OpenClaim.holds_of_wide 5 Try.f5 rfl rfl rfl rfl rfl rfl rfl ⟨rfl, rfl, rfl, rfl, rfl⟩ rfl rfl rfl rfl rfl (by kernel_rfl) Try.func5 (by kernel_rfl)
    (of_decide_eq_true (by kernel_rfl)) (by unfold Func.isWrapper; first | (rw [if_pos (by decide +kernel)]; kernel_rfl) | (rw [if_neg (by decide +kernel)]; exact ⟨rfl, rfl⟩))
    (fun os started H enc _ => sampleOrder_lifted os started H enc)

end Go.Proofs.Ytpiolahnigdjmaa
