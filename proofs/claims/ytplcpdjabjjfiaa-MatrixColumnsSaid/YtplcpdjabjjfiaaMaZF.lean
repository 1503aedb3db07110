/- MatrixColumns holds for every input: what the matrix between two maps does with each position, and that a block in parts comes out as it does at once. -/
import Derived.Test.YtplcpdjabjjfiaaMaX
import Derived.Test.YtplcpdjabjjfiaaAmRow
import Derived.Test.YtplcpdjabjjfiaaRows
namespace Go.Proofs.Ytplcpdjabjjfiaa
open Am
set_option maxRecDepth 100000
set_option linter.unusedVariables false
set_option linter.unusedSimpArgs false
open Go.ChangeShapes Go.WideShapes Go.ChangeAt Go.RowKit
theorem own : ownKnob Try.prog.godebug = none := by kernel_rfl
theorem laidOut : laidOutB Try.prog = true := by kernel_rfl
theorem byt_of_wf {l : List Int} (h : ∀ n ∈ l, (Lit.int .u8 n).wf = true) : M.byt l = true := by
  simp only [M.byt, List.all_eq_true]
  intro n hn
  have := h n hn
  simpa [Lit.wf, IntKind.min, IntKind.max, IntKind.signed, IntKind.bits] using this

namespace M
def okD3 (a b : List Int) : Bool := !okD2 a b && decide (a.length < 4294967296) && decide (b.length < 4294967296)
end M
def m_D3 : List AV → Option (Bool × AV)
  | [a_, b_] => (asVi .i64 a_).bind fun a => (asVi .i64 b_).bind fun b => some (M.okD3 a b, .tuple [.agg [.int .i64 0, .int .i64 0, .vi .i64 []], .int .i64 1])
  | _ => none
noncomputable def w1 : Cfg := g7.add 24 m_D3
theorem w1_ok : CfgOK w1 := add_ok g7_ok fun xs v h => by
  unfold m_D3 at h; split at h
  · obtain ⟨a, h_a, h⟩ := Option.bind_eq_some_iff.1 h
    obtain ⟨b, h_b, h⟩ := Option.bind_eq_some_iff.1 h
    simp only [Option.some.injEq, Prod.mk.injEq] at h; obtain ⟨h1, rfl⟩ := h
    unfold M.okD3 at h1
    simp only [Bool.and_eq_true] at h1
    have e : M.dflE a b = 1 := by
      have := h1.1.1
      unfold M.okD2 at this
      unfold M.dflE
      cases ha : M.mapV a with
      | false => rfl
      | true => rw [ha] at this; simp only [Bool.true_and, Bool.not_eq_true'] at this; rw [this]; rfl
    have := p_Default a b (by rw [h1.1.2, h1.2]; rfl)
    rw [show M.dflI a b = 0 by unfold M.dflI; rw [e]; rfl, show M.dflO a b = 0 by unfold M.dflO; rw [e]; rfl, show M.dfl a b = [] by unfold M.dfl; rw [e]; rfl, e] at this
    exact PureOK.weak this (.cons (.leaf (asVi_le h_a)) (.cons (.leaf (asVi_le h_b)) (.refl _))) (Le2.refl _)
  · cases h
def clX (a s : List Int) : List Int := M.blkD (M.bN (a.length : Int) 9) (List.take 300 s)
def clP (a s t : List Int) : List (Int × List Int) := M.cutA (a.length : Int) (clX a s) t
theorem cl_tree (a b s t : List Int) : callB u7 noCall 10 6 [.vi .i64 a, .vi .i64 b, .vi .u8 s, .vi .u8 t] [] 0 = (bif !decide ((a.length : Int) > 12) then (bif !decide ((b.length : Int) > 12) then (bif decide ((t.length : Int) > 8) then some (.bool true, [], 0) else (bif M.okD2 a b && true then (bif !(a.length : Int) != (a.length : Int) then (bif !(b.length : Int) != (b.length : Int) then (bif ((M.dflC a b a.length).length : Int) != M.w64 ((a.length : Int) * (b.length : Int)) then some (.bool false, [], 0) else (bif M.okCO a b a (M.dflC a b a.length) (a.length : Int) (a.length : Int) then (bif M.okB (a.length : Int) 9 && true then (bif M.okA2 (a.length : Int) (b.length : Int) (M.dflC a b a.length) (a.length : Int) (clX a s) && true then (bif M.okCut (a.length : Int) (clX a s) (M.frames (a.length : Int) (clX a s)) t (t.length : Int) && true then (bif M.okPc (a.length : Int) (b.length : Int) (M.dflC a b a.length) (clP a s t) ((clP a s t).length : Int) then (bif decide ((M.accP (a.length : Int) (b.length : Int) (M.dflC a b a.length) (clP a s t) (clP a s t).length).length < 4294967296) && true then some (.bool (M.sameB (b.length : Int) (M.accP (a.length : Int) (b.length : Int) (M.dflC a b a.length) (clP a s t) (clP a s t).length) (b.length : Int) (M.apD (a.length : Int) (b.length : Int) (M.dflC a b a.length) (clX a s) ((clX a s).length / (a.length : Int).toNat))), [], 0) else none) else none) else none) else none) else none) else none)) else some (.bool false, [], 0)) else some (.bool false, [], 0)) else none)) else some (.bool true, [], 0)) else some (.bool true, [], 0)) := by kernel_rfl
theorem cl_tree2 (a b s t : List Int) : callB w1 noCall 10 6 [.vi .i64 a, .vi .i64 b, .vi .u8 s, .vi .u8 t] [] 0 = (bif !decide ((a.length : Int) > 12) then (bif !decide ((b.length : Int) > 12) then (bif decide ((t.length : Int) > 8) then some (.bool true, [], 0) else (bif M.okD3 a b && true then some (.bool true, [], 0) else none)) else some (.bool true, [], 0)) else some (.bool true, [], 0)) := by kernel_rfl
theorem colv_in {a b : List Int} (ha : M.mapV a = true) (hb : M.mapV b = true) : (M.dflC a b a.length).all M.inC = true := by
  rw [List.all_eq_true]
  intro x hx
  obtain ⟨k, hk, rfl⟩ := List.mem_iff_getElem.1 hx
  have hk' := hk
  rw [dflC_length, Nat.mul_comm] at hk'
  obtain ⟨q1, q2, q3⟩ := split_at hk'
  have hv := (colOK_iff (colv_ok ha hb q2)).1 (k / a.length) q1
  have e : (M.dflC a b a.length)[k] = M.colv a b (k % a.length) (k / a.length) := by
    unfold M.colv
    rw [← q3, List.getD_eq_getElem?_getD, List.getElem?_eq_getElem hk]; rfl
  rw [e]
  rcases hv with ⟨h, _⟩ | h | h <;> rw [h] <;> rfl
theorem smp_cut {l : List Int} (h : l.all M.smp = true) (c f t : Int) : (M.cutF c l f t).all M.smp = true := all_sub h fun x hx => List.mem_of_mem_drop (List.mem_of_mem_take hx)
theorem cl_law (a b s t : List Int) (hs : M.byt s = true) (ht : M.byt t = true) : PureOK Try.prog 6 [.vi .i64 a, .vi .i64 b, .vi .u8 s, .vi .u8 t] (.bool true) := by
  by_cases hA : (a.length : Int) > 12
  · refine pure_of_callB (m := 10) w1_ok noCall_ok (u := []) (nx := 0) ?_ rfl
    rw [cl_tree2, decide_eq_true hA]; rfl
  by_cases hB : (b.length : Int) > 12
  · refine pure_of_callB (m := 10) w1_ok noCall_ok (u := []) (nx := 0) ?_ rfl
    rw [cl_tree2, decide_eq_false hA, decide_eq_true hB]; rfl
  by_cases hT : (t.length : Int) > 8
  · refine pure_of_callB (m := 10) w1_ok noCall_ok (u := []) (nx := 0) ?_ rfl
    rw [cl_tree2, decide_eq_false hA, decide_eq_false hB, decide_eq_true hT]; rfl
  cases hD : M.okD2 a b with
  | false =>
    refine pure_of_callB (m := 10) w1_ok noCall_ok (u := []) (nx := 0) ?_ rfl
    have h3 : M.okD3 a b = true := by unfold M.okD3; rw [hD, decide_eq_true (by omega), decide_eq_true (by omega)]; rfl
    rw [cl_tree2, decide_eq_false hA, decide_eq_false hB, decide_eq_false hT, h3]; rfl
  | true =>
  refine pure_of_callB (m := 10) u7_ok noCall_ok (u := []) (nx := 0) ?_ rfl
  have hD' := hD
  unfold M.okD2 at hD'
  rw [Bool.and_eq_true] at hD'
  obtain ⟨va, vb⟩ := hD'
  obtain ⟨a1, a2, _⟩ := mapV_iff va
  obtain ⟨b1, b2, _⟩ := mapV_iff vb
  obtain ⟨pp1, pp2, pp3⟩ := dfl_prod va vb
  have hs3 := byt_take 300 hs
  have hB9 : M.okB (a.length : Int) 9 = true := by unfold M.okB; rw [decide_eq_true (by omega), decide_eq_true (by omega), decide_eq_true (by omega), decide_eq_true (by omega)]; rfl
  have hXl : (clX a s).length = 9 * a.length := by unfold clX; rw [blkD_length]; unfold M.bN; omega
  have hXs : (clX a s).all M.smp = true := blkD_smp _ hs3
  have hmt : M.mtxV a.length b.length (M.dflC a b a.length) = true := by
    unfold M.mtxV
    rw [decide_eq_true (by omega), decide_eq_true (by omega), decide_eq_true (by omega), decide_eq_true (by omega), dflC_length, colv_in va vb, decide_eq_true pp1]; rfl
  have hCl : (M.dflC a b a.length).length < 4294967296 := by rw [dflC_length]; omega
  have hA2 : ∀ (l : List Int) (k : Nat), l.length = k * a.length → k ≤ 9 → l.all M.smp = true → M.okA2 a.length b.length (M.dflC a b a.length) a.length l = true := fun l k h1 h2 h3 => by
    have := Nat.mul_le_mul h2 a2
    unfold M.okA2
    rw [hmt, valid_of a1 a2 h1 (by omega) h3, decide_eq_true rfl, decide_eq_true hCl, decide_eq_true (by omega)]; rfl
  have hfr : M.frames (a.length : Int) (clX a s) = (9 : Nat) := by
    unfold M.frames
    rw [valid_of a1 a2 hXl (by omega) hXs, hXl, ← Int.ofNat_tdiv, Nat.mul_div_cancel _ (by omega)]
    exact w64_in (by omega) (by omega)
  have hCut : M.okCut (a.length : Int) (clX a s) (M.frames (a.length : Int) (clX a s)) t (t.length : Int) = true := by
    unfold M.okCut
    rw [hfr, decide_eq_true (by omega), decide_eq_true (by omega), decide_eq_true (by omega), hXl, decide_eq_true (by omega), decide_eq_true (by omega), ht, decide_eq_true (by omega), decide_eq_true rfl]; rfl
  have h9 : 9 * a.length ≤ (clX a s).length := by omega
  have hparts := cutA_parts (c := a.length) (n := 9) (l := clX a s) (t := t) h9 hfr ht
  have hPl : (clP a s t).length ≤ 9 ∧ 1 ≤ (clP a s t).length := by
    have := cutL_len (a.length : Int) (clX a s) (M.frames (a.length : Int) (clX a s)) t t.length
    unfold clP M.cutA
    rw [List.length_append]
    simp only [List.length_cons, List.length_nil]
    omega
  have hpart : ∀ p, p ∈ clP a s t → M.okA2 a.length b.length (M.dflC a b a.length) p.1 p.2 = true ∧ (M.apP a.length b.length (M.dflC a b a.length) p.2).length ≤ 72 := fun p hp => by
    obtain ⟨e1, f, k, h1, h2, e2⟩ := hparts p hp
    have hk : k * a.length ≤ (clX a s).length := by rw [hXl]; exact Nat.mul_le_mul_right _ h2
    have hl := cutF_len (c := a.length) (l := clX a s) h1 hk
    rw [e1, e2]
    refine ⟨hA2 _ (k - f) hl (by omega) (smp_cut hXs _ _ _), ?_⟩
    unfold M.apP
    rw [apD_len, hl, Int.toNat_natCast, Nat.mul_div_cancel _ (by omega)]
    exact Nat.mul_le_mul (by omega : k - f ≤ 9) b2
  have hget : ∀ i, i < (clP a s t).length → (clP a s t).getD i (0, []) ∈ clP a s t := fun i hi => by
    rw [List.getD_eq_getElem?_getD, List.getElem?_eq_getElem hi]; exact List.getElem_mem _
  have hacc := fun i hi => accP_len (n := a.length) (m := b.length) (co := M.dflC a b a.length) (B := 72) (fun p hp => (hpart p hp).2) i hi
  have hPc : M.okPc a.length b.length (M.dflC a b a.length) (clP a s t) ((clP a s t).length : Int) = true := by
    unfold M.okPc
    rw [decide_eq_true rfl, decide_eq_true hPl.2, decide_eq_true (by omega), allN_iff.2 fun i hi => by
      have h1 := hpart _ (hget i hi)
      have h2 := hacc i (by omega)
      have h3 : i * 72 ≤ 9 * 72 := Nat.mul_le_mul_right _ (by omega)
      unfold M.okJ
      rw [h1.1, decide_eq_true (by omega), decide_eq_true (by omega)]; rfl]
    rfl
  have hCO : M.okCO a b a (M.dflC a b a.length) a.length a.length = true := by
    unfold M.okCO; rw [va, vb, decide_eq_true rfl, decide_eq_true rfl, decide_eq_true rfl]; rfl
  have hsame : M.accP a.length b.length (M.dflC a b a.length) (clP a s t) (clP a s t).length = M.apD a.length b.length (M.dflC a b a.length) (clX a s) 9 := acc_cutA (c := a.length) (n := 9) a1 h9 hfr ht
  rw [cl_tree, decide_eq_false hA, decide_eq_false hB, decide_eq_false hT, hD, hCO, hB9, hA2 _ 9 hXl (Nat.le_refl _) hXs, hCut, hPc, hsame, hXl, Int.toNat_natCast, Nat.mul_div_cancel _ (by omega), sameB_self, apD_len, decide_eq_true (by omega : 9 * b.length < 4294967296), dflC_length, w64_in (by omega) (by omega), pp1, bne_self_eq_false, bne_self_eq_false, bne_self_eq_false]
  rfl

theorem matrixColumns_lifted (os : Os) (started : os.Started) (H : Type) (enc : TypeId × Value → H) :
    ReturnsInHanded {} Try.checked os 6 .any (Rows.matrixColumnsSpec.pre6 enc Try.prog Try.f6 Rows.matrixColumnsRow.domain false) (Rows.matrixColumnsSpec.post enc Try.prog Try.f6 false true false false) := by
  refine returnsInHanded_of_change (C := Try.checked) own started (by kernel_rfl) Try.func6
    (ChangeSpec.witness6 (enc := enc) (C := Try.checked) false ⟨#[], #[.slice none 0 0, .slice none 0 0, .slice none 0 0, .slice none 0 0], []⟩ 8 (by kernel_rfl) (by kernel_rfl) (by kernel_rfl) (by kernel_rfl)) ?_
  intro W base args ds gs before hval0 hW hcnd _
  have hval : ∀ (j : Nat) t v, Try.f6.params[j]? = some t → args[j]? = some v → Value.okWide Try.prog W .any base t v := hval0
  have hW' := hW
  obtain ⟨p, q, hA0, hV, rfl, hfz, hnd⟩ := hW
  have hA : DataW.TrodAll enc Try.prog W 0 (fun _ => true) true Try.f6.params.toList args.toList ds p := hA0
  rw [Try.params6] at hA hval
  obtain ⟨v0, v1, v2, v3, d0, d1, d2, d3, p0, p1, p2, p3, rfl, rfl, rfl, h0, h1, h2, h3⟩ := trodAll_four hA
  obtain ⟨rfl, rfl⟩ := trodVars_none hV
  obtain ⟨a_a, len_a, cap_a, rfl⟩ := okWide_slice Try.underlying22 (hval 0 22 v0 rfl rfl)
  obtain ⟨a, h_a, w_a⟩ := open_row' Try.underlying22 Try.underlying3 (by kernel_rfl) ⟨_, rfl, rfl⟩ h0
  obtain ⟨a_b, len_b, cap_b, rfl⟩ := okWide_slice Try.underlying22 (hval 1 22 v1 rfl rfl)
  obtain ⟨b, h_b, w_b⟩ := open_row' Try.underlying22 Try.underlying3 (by kernel_rfl) ⟨_, rfl, rfl⟩ h1
  obtain ⟨a_s, len_s, cap_s, rfl⟩ := okWide_slice Try.underlying28 (hval 2 28 v2 rfl rfl)
  obtain ⟨s, h_s, w_s⟩ := open_row' Try.underlying28 Try.underlying5 (by kernel_rfl) ⟨_, rfl, rfl⟩ h2
  obtain ⟨a_t, len_t, cap_t, rfl⟩ := okWide_slice Try.underlying28 (hval 3 28 v3 rfl rfl)
  obtain ⟨t, h_t, w_t⟩ := open_row' Try.underlying28 Try.underlying5 (by kernel_rfl) ⟨_, rfl, rfl⟩ h3
  have hcalls := (cl_law a b s t (byt_of_wf w_s) (byt_of_wf w_t)) (fun b _ => b < W.heap.size) W [.slice a_a len_a cap_a, .slice a_b len_b cap_b, .slice a_s len_s cap_s, .slice a_t len_t cap_t] (fun b _ h => h)
    (.cons h_a (.cons h_b (.cons h_s (.cons h_t .nil))))
  refine hcalls.mono fun e W' ⟨V, he, hs, hbl, hos, hout, hV⟩ => ?_
  cases hV
  exact ⟨_, he, law_post laidOut hW' rfl rfl rfl rfl (by kernel_rfl) Try.underlying4 (by rw [Try.params6]; intro t ht; simp at ht; rcases ht with rfl | rfl <;> exact ⟨by kernel_rfl, by decide +kernel⟩) hos hout hbl⟩

theorem matrixColumns_holds : Rows.MatrixColumnsSaid :=
  OpenClaim.holds_of_wide 6 Try.f6 rfl rfl rfl rfl rfl rfl rfl ⟨rfl, rfl, rfl, rfl, rfl⟩ rfl rfl rfl rfl rfl (by kernel_rfl) Try.func6 (by kernel_rfl)
    (of_decide_eq_true (by kernel_rfl)) (by unfold Func.isWrapper; first | (rw [if_pos (by decide +kernel)]; kernel_rfl) | (rw [if_neg (by decide +kernel)]; exact ⟨rfl, rfl⟩))
    (fun os started H enc _ => matrixColumns_lifted os started H enc)

end Go.Proofs.Ytplcpdjabjjfiaa
