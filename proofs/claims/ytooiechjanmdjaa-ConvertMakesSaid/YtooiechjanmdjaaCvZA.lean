/- ConvertMakes holds for every input: which formats are possible, the size of frames, new converters. -/
import Derived.Test.YtooiechjanmdjaaCvM
import Derived.Test.YtooiechjanmdjaaAmRow
import Derived.Test.YtooiechjanmdjaaRows
namespace Go.Proofs.Ytooiechjanmdjaa
open Am
set_option maxRecDepth 100000
set_option linter.unusedVariables false
set_option linter.unusedSimpArgs false
open Go.ChangeShapes Go.WideShapes Go.ChangeAt Go.RowKit
theorem own : ownKnob Try.prog.godebug = none := by kernel_rfl
theorem laidOut : laidOutB Try.prog = true := by kernel_rfl
theorem byt_of_wf {l : List Int} (h : ∀ n ∈ l, (Lit.int .u8 n).wf = true) : M.byt l = true := by
  simp only [M.byt, List.all_eq_true]
  intro n hn
  have := h n hn
  simpa [Lit.wf, IntKind.min, IntKind.max, IntKind.signed, IntKind.bits] using this

namespace M
abbrev Res := Option (AV × Upd × Nat)
def prT (k r : Int) (l : List Int) (k' r' : Int) (l' : List Int) (nx : Res) : Res :=
  (bif decide (l.length < 4294967296) && decide (l'.length < 4294967296) && true then (bif decide (l.length < 4294967296) && decide (l'.length < 4294967296) && true then (bif !((M.cvE k r l k' r' l') != (M.cvE k r l k' r' l')) then (bif decide ((M.unL (M.cvE k r l k' r' l') l).length < 4294967296) && decide ((M.unL (M.cvE k r l k' r' l') l').length < 4294967296) && (decide ((M.unL (M.cvE k r l k' r' l') (M.dflC l l' l.length)).length < 4294967296) && true) && true then (bif !(!(bif M.sameF (M.un (M.cvE k r l k' r' l') k) (M.un (M.cvE k r l k' r' l') r) (M.unL (M.cvE k r l k' r' l') l) (M.un (M.cvE k r l k' r' l') k) (M.un (M.cvE k r l k' r' l') r) (M.unL (M.cvE k r l k' r' l') l) then (bif M.sameF (M.un (M.cvE k r l k' r' l') k') (M.un (M.cvE k r l k' r' l') r') (M.unL (M.cvE k r l k' r' l') l') (M.un (M.cvE k r l k' r' l') k') (M.un (M.cvE k r l k' r' l') r') (M.unL (M.cvE k r l k' r' l') l') then (bif M.sameM (M.un (M.cvE k r l k' r' l') (l.length : Int)) (M.un (M.cvE k r l k' r' l') (l'.length : Int)) (M.unL (M.cvE k r l k' r' l') (M.dflC l l' l.length)) (M.un (M.cvE k r l k' r' l') (l.length : Int)) (M.un (M.cvE k r l k' r' l') (l'.length : Int)) (M.unL (M.cvE k r l k' r' l') (M.dflC l l' l.length)) then M.sameR (M.un (M.cvE k r l k' r' l') (l'.length : Int)) (M.un (M.cvE k r l k' r' l') (Ph.M.mkN r r')) (M.un (M.cvE k r l k' r' l') (Ph.M.mkD r r')) 0 0 0 [] (M.un (M.cvE k r l k' r' l') (l'.length : Int)) (M.un (M.cvE k r l k' r' l') (Ph.M.mkN r r')) (M.un (M.cvE k r l k' r' l') (Ph.M.mkD r r')) 0 0 0 [] else false) else false) else false)) then (bif decide ((M.unL (M.cvE k r l k' r' l') l).length < 4294967296) && decide ((M.unL (M.cvE k r l k' r' l') l').length < 4294967296) && (decide ((M.unL (M.cvE k r l k' r' l') (M.dflC l l' l.length)).length < 4294967296) && true) && true then (bif decide ((M.unL (M.cvE k r l k' r' l') l).length < 4294967296) && decide ((M.unL (M.cvE k r l k' r' l') l').length < 4294967296) && (decide ((M.unL (M.cvE k r l k' r' l') (M.dflC l l' l.length)).length < 4294967296) && true) && true then (bif !(M.cvV (M.un (M.cvE k r l k' r' l') k) (M.un (M.cvE k r l k' r' l') r) (M.unL (M.cvE k r l k' r' l') l) (M.un (M.cvE k r l k' r' l') k') (M.un (M.cvE k r l k' r' l') r') (M.unL (M.cvE k r l k' r' l') l') (M.un (M.cvE k r l k' r' l') (l.length : Int)) (M.un (M.cvE k r l k' r' l') (l'.length : Int)) (M.unL (M.cvE k r l k' r' l') (M.dflC l l' l.length)) (M.un (M.cvE k r l k' r' l') (l'.length : Int)) (M.un (M.cvE k r l k' r' l') (Ph.M.mkN r r')) (M.un (M.cvE k r l k' r' l') (Ph.M.mkD r r')) 0 0 0 [] == M.cvV (M.un (M.cvE k r l k' r' l') k) (M.un (M.cvE k r l k' r' l') r) (M.unL (M.cvE k r l k' r' l') l) (M.un (M.cvE k r l k' r' l') k') (M.un (M.cvE k r l k' r' l') r') (M.unL (M.cvE k r l k' r' l') l') (M.un (M.cvE k r l k' r' l') (l.length : Int)) (M.un (M.cvE k r l k' r' l') (l'.length : Int)) (M.unL (M.cvE k r l k' r' l') (M.dflC l l' l.length)) (M.un (M.cvE k r l k' r' l') (l'.length : Int)) (M.un (M.cvE k r l k' r' l') (Ph.M.mkN r r')) (M.un (M.cvE k r l k' r' l') (Ph.M.mkD r r')) 0 0 0 []) then some (.bool false, [], 0) else nx) else none) else none) else some (.bool false, [], 0)) else none) else some (.bool false, [], 0)) else none) else none)
def fiT (k r : Int) (l : List Int) (nx : Res) : Res :=
  (bif decide (l.length < 4294967296) && true then (bif decide (l.length < 4294967296) && true then (bif !(!(M.fits k r l == M.fits k r l)) then (bif decide (l.length < 4294967296) && true then (bif decide (l.length < 4294967296) && true then (bif M.frsz k r l != M.frsz k r l then some (.bool false, [], 0) else nx) else none) else none) else some (.bool false, [], 0)) else none) else none)
end M

theorem unL_len {e : Int} {l : List Int} (h : l.length < 4294967296) : decide ((M.unL e l).length < 4294967296) = true := by
  refine decide_eq_true ?_
  unfold M.unL
  cases e == 0
  · exact Nat.zero_lt_succ _
  · exact h
theorem prT_nx {k r : Int} {l : List Int} {k' r' : Int} {l' : List Int} (h : l.length ≤ 20) (h' : l'.length ≤ 20) (nx : M.Res) : M.prT k r l k' r' l' nx = nx := by
  have hd : (M.dflC l l' l.length).length < 4294967296 := by
    rw [dflC_length]
    have : l'.length * l.length ≤ 20 * 20 := Nat.mul_le_mul h' h
    have : l.length * l'.length ≤ 20 * 20 := Nat.mul_le_mul h h'
    omega
  unfold M.prT
  rw [unL_len hd, unL_len (by omega : l.length < 4294967296), unL_len (by omega : l'.length < 4294967296), decide_eq_true (by omega : l.length < 4294967296), decide_eq_true (by omega : l'.length < 4294967296), sameF_self, sameF_self, sameM_self, sameR_self, beq_self_eq_true, bne_self_eq_false]
  rfl
theorem fiT_nx {k r : Int} {l : List Int} (h : l.length ≤ 20) (nx : M.Res) : M.fiT k r l nx = nx := by
  unfold M.fiT
  rw [decide_eq_true (by omega : l.length < 4294967296), beq_self_eq_true, bne_self_eq_false]
  rfl

theorem e_tree (k r : Int) (l : List Int) (k' r' : Int) (l' : List Int) (sd : List Int) (fk fr : Int) (fm : List Int) (gk gr : Int) (gm : List Int) (mi mo : Int) (co : List Int) (c n d j p f : Int) (rt : List Int) : callB y16 noCall 10 3 [.agg [.int .i64 k, .int .i64 r, .vi .i64 l], .agg [.int .i64 k', .int .i64 r', .vi .i64 l'], .vi .u8 sd, .agg [.int .i64 fk, .int .i64 fr, .vi .i64 fm, .int .i64 gk, .int .i64 gr, .vi .i64 gm, .int .i64 mi, .int .i64 mo, .vi .i64 co, .int .i64 c, .int .i64 n, .int .i64 d, .int .i64 j, .int .i64 p, .int .i64 f, .vi .i32 rt]] [] 0 = (bif !decide ((l.length : Int) > 20) then (bif !decide ((l'.length : Int) > 20) then (bif !decide ((co.length : Int) > 100) then (bif !decide ((rt.length : Int) > 100) then (bif !decide ((fm.length : Int) > 20) then (bif decide ((gm.length : Int) > 20) then some (.bool true, [], 0) else (bif M.byt (sd.take 300) && true then (M.prT k r l k' r' l' (M.prT k r l (M.fk (M.fl (sd.take 300))) (M.fr (M.fl (sd.take 300))) (M.fm (M.fl (sd.take 300))) (M.fiT k r l (M.prT (M.fk (sd.take 300)) (M.fr (sd.take 300)) (M.fm (sd.take 300)) k' r' l' (M.prT (M.fk (sd.take 300)) (M.fr (sd.take 300)) (M.fm (sd.take 300)) (M.fk (M.fl (sd.take 300))) (M.fr (M.fl (sd.take 300))) (M.fm (M.fl (sd.take 300))) (M.fiT (M.fk (sd.take 300)) (M.fr (sd.take 300)) (M.fm (sd.take 300)) (bif decide (fm.length < 4294967296) && decide (gm.length < 4294967296) && (decide (co.length < 4294967296) && decide (rt.length < 4294967296)) && true then (bif decide (fm.length < 4294967296) && decide (gm.length < 4294967296) && (decide (co.length < 4294967296) && decide (rt.length < 4294967296)) && true then some (.bool (M.cvV fk fr fm gk gr gm mi mo co c n d j p f rt == M.cvV fk fr fm gk gr gm mi mo co c n d j p f rt), [], 0) else none) else none))))))) else none)) else some (.bool true, [], 0)) else some (.bool true, [], 0)) else some (.bool true, [], 0)) else some (.bool true, [], 0)) else some (.bool true, [], 0)) := by kernel_rfl

theorem fm_len {l : List Int} (h : M.byt l = true) : (M.fm l).length ≤ 20 := by
  have := List.all_eq_true.1 (show (M.maps.all fun m => decide (m.length ≤ 20)) = true by kernel_rfl) _ (fm_mem h)
  exact of_decide_eq_true this
theorem e_law (k r : Int) (l : List Int) (k' r' : Int) (l' : List Int) (sd : List Int) (fk fr : Int) (fm : List Int) (gk gr : Int) (gm : List Int) (mi mo : Int) (co : List Int) (c n d j p f : Int) (rt : List Int) (hs : M.byt sd = true) : callB y16 noCall 10 3 [.agg [.int .i64 k, .int .i64 r, .vi .i64 l], .agg [.int .i64 k', .int .i64 r', .vi .i64 l'], .vi .u8 sd, .agg [.int .i64 fk, .int .i64 fr, .vi .i64 fm, .int .i64 gk, .int .i64 gr, .vi .i64 gm, .int .i64 mi, .int .i64 mo, .vi .i64 co, .int .i64 c, .int .i64 n, .int .i64 d, .int .i64 j, .int .i64 p, .int .i64 f, .vi .i32 rt]] [] 0 = some (.bool true, [], 0) := by
  rw [e_tree]
  have b0 : M.byt (sd.take 300) = true := byt_take 300 hs
  have b1 := byt_fl b0
  by_cases h1 : (l.length : Int) > 20
  · rw [decide_eq_true h1]; rfl
  by_cases h2 : (l'.length : Int) > 20
  · rw [decide_eq_false h1, decide_eq_true h2]; rfl
  by_cases h3 : (co.length : Int) > 100
  · rw [decide_eq_false h1, decide_eq_false h2, decide_eq_true h3]; rfl
  by_cases h4 : (rt.length : Int) > 100
  · rw [decide_eq_false h1, decide_eq_false h2, decide_eq_false h3, decide_eq_true h4]; rfl
  by_cases h5 : (fm.length : Int) > 20
  · rw [decide_eq_false h1, decide_eq_false h2, decide_eq_false h3, decide_eq_false h4, decide_eq_true h5]; rfl
  by_cases h6 : (gm.length : Int) > 20
  · rw [decide_eq_false h1, decide_eq_false h2, decide_eq_false h3, decide_eq_false h4, decide_eq_false h5, decide_eq_true h6]; rfl
  rw [decide_eq_false h1, decide_eq_false h2, decide_eq_false h3, decide_eq_false h4, decide_eq_false h5, decide_eq_false h6, b0,
    prT_nx (by omega) (by omega), prT_nx (by omega) (fm_len b1), fiT_nx (by omega), prT_nx (fm_len b0) (by omega), prT_nx (fm_len b0) (fm_len b1), fiT_nx (fm_len b0),
    decide_eq_true (by omega : fm.length < 4294967296), decide_eq_true (by omega : gm.length < 4294967296), decide_eq_true (by omega : co.length < 4294967296), decide_eq_true (by omega : rt.length < 4294967296), beq_self_eq_true]
  rfl

theorem convertMakes_lifted (os : Os) (started : os.Started) (H : Type) (enc : TypeId × Value → H) :
    ReturnsInHanded {} Try.checked os 3 .any (Rows.convertMakesSpec.pre6 enc Try.prog Try.f3 Rows.convertMakesRow.domain false) (Rows.convertMakesSpec.post enc Try.prog Try.f3 false true false false) := by
  refine returnsInHanded_of_change (C := Try.checked) own started (by kernel_rfl) Try.func3
    (ChangeSpec.witness6 (enc := enc) (C := Try.checked) false ⟨#[], #[.agg #[.int .i64 0, .int .i64 0, .slice none 0 0], .agg #[.int .i64 0, .int .i64 0, .slice none 0 0], .slice none 0 0, .agg #[.int .i64 0, .int .i64 0, .slice none 0 0, .int .i64 0, .int .i64 0, .slice none 0 0, .int .i64 0, .int .i64 0, .slice none 0 0, .int .i64 0, .int .i64 0, .int .i64 0, .int .i64 0, .int .i64 0, .int .i64 0, .slice none 0 0]], []⟩ 8 (by kernel_rfl) (by kernel_rfl) (by kernel_rfl) (by kernel_rfl)) ?_
  intro W base args ds gs before hval0 hW hcnd _
  have hval : ∀ (j : Nat) t v, Try.f3.params[j]? = some t → args[j]? = some v → Value.okWide Try.prog W .any base t v := hval0
  have hW' := hW
  obtain ⟨p, q, hA0, hV, rfl, hfz, hnd⟩ := hW
  have hA : DataW.TrodAll enc Try.prog W 0 (fun _ => true) true Try.f3.params.toList args.toList ds p := hA0
  rw [Try.params3] at hA hval
  obtain ⟨v0, v1, v2, v3, d0, d1, d2, d3, p0, p1, p2, p3, rfl, rfl, rfl, h0, h1, h2, h3⟩ := trodAll_four hA
  obtain ⟨rfl, rfl⟩ := trodVars_none hV
  obtain ⟨cs0, rfl, hs0⟩ := okWide_agg Try.underlying24 (hval 0 24 v0 rfl rfl)
  have hn0 : Try.prog.cellsOf 24 = 3 := by kernel_rfl
  rw [hn0] at hs0
  obtain ⟨f0, hf0⟩ := h0
  obtain ⟨cs0_0⟩ := cs0
  have hs0_0 : cs0_0.length = 3 := hs0
  obtain ⟨c0_0, cs0_1, rfl, hs0_1⟩ := len_succ hs0_0
  obtain ⟨c0_1, cs0_2, rfl, hs0_2⟩ := len_succ hs0_1
  obtain ⟨c0_2, cs0_3, rfl, hs0_3⟩ := len_succ hs0_2
  obtain rfl := List.length_eq_zero_iff.1 hs0_3
  have g0 : DataW.trod enc Try.prog W 0 (fun _ => true) true f0 24 [c0_0, c0_1, c0_2] = some (d0, p0) := hf0
  obtain ⟨mg0_0, yg0_0, g0_0⟩ := trod_sub' Try.underlying24 g0 0 0 1 (u := 3) (ds := [c0_0]) rfl (by kernel_rfl) rfl
  obtain ⟨k, eg0_0, _, w_k⟩ := DataW.trod_int Try.underlying3 g0_0
  obtain rfl := List.singleton_inj.1 eg0_0
  obtain ⟨mg0_1, yg0_1, g0_1⟩ := trod_sub' Try.underlying24 g0 1 1 1 (u := 3) (ds := [c0_1]) rfl (by kernel_rfl) rfl
  obtain ⟨r, eg0_1, _, w_r⟩ := DataW.trod_int Try.underlying3 g0_1
  obtain rfl := List.singleton_inj.1 eg0_1
  obtain ⟨mg0_2, yg0_2, g0_2⟩ := trod_sub' Try.underlying24 g0 2 2 1 (u := 22) (ds := [c0_2]) rfl (by kernel_rfl) rfl
  obtain ⟨l, h_l, w_l⟩ := open_rowT Try.underlying22 Try.underlying3 (by kernel_rfl) g0_2
  have r_k : -9223372036854775808 ≤ k ∧ k ≤ 9223372036854775807 := by
    simp only [Lit.wf, IntKind.min, IntKind.max, IntKind.signed, IntKind.bits, Bool.and_eq_true, decide_eq_true_eq] at w_k
    simpa using w_k
  have r_r : -9223372036854775808 ≤ r ∧ r ≤ 9223372036854775807 := by
    simp only [Lit.wf, IntKind.min, IntKind.max, IntKind.signed, IntKind.bits, Bool.and_eq_true, decide_eq_true_eq] at w_r
    simpa using w_r
  obtain ⟨cs1, rfl, hs1⟩ := okWide_agg Try.underlying24 (hval 1 24 v1 rfl rfl)
  have hn1 : Try.prog.cellsOf 24 = 3 := by kernel_rfl
  rw [hn1] at hs1
  obtain ⟨f1, hf1⟩ := h1
  obtain ⟨cs1_0⟩ := cs1
  have hs1_0 : cs1_0.length = 3 := hs1
  obtain ⟨c1_0, cs1_1, rfl, hs1_1⟩ := len_succ hs1_0
  obtain ⟨c1_1, cs1_2, rfl, hs1_2⟩ := len_succ hs1_1
  obtain ⟨c1_2, cs1_3, rfl, hs1_3⟩ := len_succ hs1_2
  obtain rfl := List.length_eq_zero_iff.1 hs1_3
  have g1 : DataW.trod enc Try.prog W 0 (fun _ => true) true f1 24 [c1_0, c1_1, c1_2] = some (d1, p1) := hf1
  obtain ⟨mg1_0, yg1_0, g1_0⟩ := trod_sub' Try.underlying24 g1 0 0 1 (u := 3) (ds := [c1_0]) rfl (by kernel_rfl) rfl
  obtain ⟨k', eg1_0, _, w_k'⟩ := DataW.trod_int Try.underlying3 g1_0
  obtain rfl := List.singleton_inj.1 eg1_0
  obtain ⟨mg1_1, yg1_1, g1_1⟩ := trod_sub' Try.underlying24 g1 1 1 1 (u := 3) (ds := [c1_1]) rfl (by kernel_rfl) rfl
  obtain ⟨r', eg1_1, _, w_r'⟩ := DataW.trod_int Try.underlying3 g1_1
  obtain rfl := List.singleton_inj.1 eg1_1
  obtain ⟨mg1_2, yg1_2, g1_2⟩ := trod_sub' Try.underlying24 g1 2 2 1 (u := 22) (ds := [c1_2]) rfl (by kernel_rfl) rfl
  obtain ⟨l', h_l', w_l'⟩ := open_rowT Try.underlying22 Try.underlying3 (by kernel_rfl) g1_2
  have r_k' : -9223372036854775808 ≤ k' ∧ k' ≤ 9223372036854775807 := by
    simp only [Lit.wf, IntKind.min, IntKind.max, IntKind.signed, IntKind.bits, Bool.and_eq_true, decide_eq_true_eq] at w_k'
    simpa using w_k'
  have r_r' : -9223372036854775808 ≤ r' ∧ r' ≤ 9223372036854775807 := by
    simp only [Lit.wf, IntKind.min, IntKind.max, IntKind.signed, IntKind.bits, Bool.and_eq_true, decide_eq_true_eq] at w_r'
    simpa using w_r'
  obtain ⟨a_sd, len_sd, cap_sd, rfl⟩ := okWide_slice Try.underlying25 (hval 2 25 v2 rfl rfl)
  obtain ⟨sd, h_sd, w_sd⟩ := open_row' Try.underlying25 Try.underlying5 (by kernel_rfl) ⟨_, rfl, rfl⟩ h2
  obtain ⟨cs3, rfl, hs3⟩ := okWide_agg Try.underlying36 (hval 3 36 v3 rfl rfl)
  have hn3 : Try.prog.cellsOf 36 = 16 := by kernel_rfl
  rw [hn3] at hs3
  obtain ⟨f3, hf3⟩ := h3
  obtain ⟨cs3_0⟩ := cs3
  have hs3_0 : cs3_0.length = 16 := hs3
  obtain ⟨c3_0, cs3_1, rfl, hs3_1⟩ := len_succ hs3_0
  obtain ⟨c3_1, cs3_2, rfl, hs3_2⟩ := len_succ hs3_1
  obtain ⟨c3_2, cs3_3, rfl, hs3_3⟩ := len_succ hs3_2
  obtain ⟨c3_3, cs3_4, rfl, hs3_4⟩ := len_succ hs3_3
  obtain ⟨c3_4, cs3_5, rfl, hs3_5⟩ := len_succ hs3_4
  obtain ⟨c3_5, cs3_6, rfl, hs3_6⟩ := len_succ hs3_5
  obtain ⟨c3_6, cs3_7, rfl, hs3_7⟩ := len_succ hs3_6
  obtain ⟨c3_7, cs3_8, rfl, hs3_8⟩ := len_succ hs3_7
  obtain ⟨c3_8, cs3_9, rfl, hs3_9⟩ := len_succ hs3_8
  obtain ⟨c3_9, cs3_10, rfl, hs3_10⟩ := len_succ hs3_9
  obtain ⟨c3_10, cs3_11, rfl, hs3_11⟩ := len_succ hs3_10
  obtain ⟨c3_11, cs3_12, rfl, hs3_12⟩ := len_succ hs3_11
  obtain ⟨c3_12, cs3_13, rfl, hs3_13⟩ := len_succ hs3_12
  obtain ⟨c3_13, cs3_14, rfl, hs3_14⟩ := len_succ hs3_13
  obtain ⟨c3_14, cs3_15, rfl, hs3_15⟩ := len_succ hs3_14
  obtain ⟨c3_15, cs3_16, rfl, hs3_16⟩ := len_succ hs3_15
  obtain rfl := List.length_eq_zero_iff.1 hs3_16
  have g3 : DataW.trod enc Try.prog W 0 (fun _ => true) true f3 36 [c3_0, c3_1, c3_2, c3_3, c3_4, c3_5, c3_6, c3_7, c3_8, c3_9, c3_10, c3_11, c3_12, c3_13, c3_14, c3_15] = some (d3, p3) := hf3
  obtain ⟨mg3_0, yg3_0, g3_0⟩ := trod_sub' Try.underlying36 g3 0 0 3 (u := 24) (ds := [c3_0, c3_1, c3_2]) rfl (by kernel_rfl) rfl
  obtain ⟨mg3_0_0, yg3_0_0, g3_0_0⟩ := trod_sub' Try.underlying24 g3_0 0 0 1 (u := 3) (ds := [c3_0]) rfl (by kernel_rfl) rfl
  obtain ⟨fk, eg3_0_0, _, w_fk⟩ := DataW.trod_int Try.underlying3 g3_0_0
  obtain rfl := List.singleton_inj.1 eg3_0_0
  obtain ⟨mg3_0_1, yg3_0_1, g3_0_1⟩ := trod_sub' Try.underlying24 g3_0 1 1 1 (u := 3) (ds := [c3_1]) rfl (by kernel_rfl) rfl
  obtain ⟨fr, eg3_0_1, _, w_fr⟩ := DataW.trod_int Try.underlying3 g3_0_1
  obtain rfl := List.singleton_inj.1 eg3_0_1
  obtain ⟨mg3_0_2, yg3_0_2, g3_0_2⟩ := trod_sub' Try.underlying24 g3_0 2 2 1 (u := 22) (ds := [c3_2]) rfl (by kernel_rfl) rfl
  obtain ⟨fm, h_fm, w_fm⟩ := open_rowT Try.underlying22 Try.underlying3 (by kernel_rfl) g3_0_2
  obtain ⟨mg3_1, yg3_1, g3_1⟩ := trod_sub' Try.underlying36 g3 1 3 3 (u := 24) (ds := [c3_3, c3_4, c3_5]) rfl (by kernel_rfl) rfl
  obtain ⟨mg3_1_0, yg3_1_0, g3_1_0⟩ := trod_sub' Try.underlying24 g3_1 0 0 1 (u := 3) (ds := [c3_3]) rfl (by kernel_rfl) rfl
  obtain ⟨gk, eg3_1_0, _, w_gk⟩ := DataW.trod_int Try.underlying3 g3_1_0
  obtain rfl := List.singleton_inj.1 eg3_1_0
  obtain ⟨mg3_1_1, yg3_1_1, g3_1_1⟩ := trod_sub' Try.underlying24 g3_1 1 1 1 (u := 3) (ds := [c3_4]) rfl (by kernel_rfl) rfl
  obtain ⟨gr, eg3_1_1, _, w_gr⟩ := DataW.trod_int Try.underlying3 g3_1_1
  obtain rfl := List.singleton_inj.1 eg3_1_1
  obtain ⟨mg3_1_2, yg3_1_2, g3_1_2⟩ := trod_sub' Try.underlying24 g3_1 2 2 1 (u := 22) (ds := [c3_5]) rfl (by kernel_rfl) rfl
  obtain ⟨gm, h_gm, w_gm⟩ := open_rowT Try.underlying22 Try.underlying3 (by kernel_rfl) g3_1_2
  obtain ⟨mg3_2, yg3_2, g3_2⟩ := trod_sub' Try.underlying36 g3 2 6 3 (u := 27) (ds := [c3_6, c3_7, c3_8]) rfl (by kernel_rfl) rfl
  obtain ⟨mg3_2_0, yg3_2_0, g3_2_0⟩ := trod_sub' Try.underlying27 g3_2 0 0 1 (u := 3) (ds := [c3_6]) rfl (by kernel_rfl) rfl
  obtain ⟨mi, eg3_2_0, _, w_mi⟩ := DataW.trod_int Try.underlying3 g3_2_0
  obtain rfl := List.singleton_inj.1 eg3_2_0
  obtain ⟨mg3_2_1, yg3_2_1, g3_2_1⟩ := trod_sub' Try.underlying27 g3_2 1 1 1 (u := 3) (ds := [c3_7]) rfl (by kernel_rfl) rfl
  obtain ⟨mo, eg3_2_1, _, w_mo⟩ := DataW.trod_int Try.underlying3 g3_2_1
  obtain rfl := List.singleton_inj.1 eg3_2_1
  obtain ⟨mg3_2_2, yg3_2_2, g3_2_2⟩ := trod_sub' Try.underlying27 g3_2 2 2 1 (u := 22) (ds := [c3_8]) rfl (by kernel_rfl) rfl
  obtain ⟨co, h_co, w_co⟩ := open_rowT Try.underlying22 Try.underlying3 (by kernel_rfl) g3_2_2
  obtain ⟨mg3_3, yg3_3, g3_3⟩ := trod_sub' Try.underlying36 g3 3 9 7 (u := 34) (ds := [c3_9, c3_10, c3_11, c3_12, c3_13, c3_14, c3_15]) rfl (by kernel_rfl) rfl
  obtain ⟨mg3_3_0, yg3_3_0, g3_3_0⟩ := trod_sub' Try.underlying34 g3_3 0 0 1 (u := 3) (ds := [c3_9]) rfl (by kernel_rfl) rfl
  obtain ⟨c, eg3_3_0, _, w_c⟩ := DataW.trod_int Try.underlying3 g3_3_0
  obtain rfl := List.singleton_inj.1 eg3_3_0
  obtain ⟨mg3_3_1, yg3_3_1, g3_3_1⟩ := trod_sub' Try.underlying34 g3_3 1 1 5 (u := 31) (ds := [c3_10, c3_11, c3_12, c3_13, c3_14]) rfl (by kernel_rfl) rfl
  obtain ⟨mg3_3_1_0, yg3_3_1_0, g3_3_1_0⟩ := trod_sub' Try.underlying31 g3_3_1 0 0 2 (u := 29) (ds := [c3_10, c3_11]) rfl (by kernel_rfl) rfl
  obtain ⟨mg3_3_1_0_0, yg3_3_1_0_0, g3_3_1_0_0⟩ := trod_sub' Try.underlying29 g3_3_1_0 0 0 1 (u := 2) (ds := [c3_10]) rfl (by kernel_rfl) rfl
  obtain ⟨n, eg3_3_1_0_0, _, w_n⟩ := DataW.trod_int Try.underlying2 g3_3_1_0_0
  obtain rfl := List.singleton_inj.1 eg3_3_1_0_0
  obtain ⟨mg3_3_1_0_1, yg3_3_1_0_1, g3_3_1_0_1⟩ := trod_sub' Try.underlying29 g3_3_1_0 1 1 1 (u := 2) (ds := [c3_11]) rfl (by kernel_rfl) rfl
  obtain ⟨d, eg3_3_1_0_1, _, w_d⟩ := DataW.trod_int Try.underlying2 g3_3_1_0_1
  obtain rfl := List.singleton_inj.1 eg3_3_1_0_1
  obtain ⟨mg3_3_1_1, yg3_3_1_1, g3_3_1_1⟩ := trod_sub' Try.underlying31 g3_3_1 1 2 1 (u := 3) (ds := [c3_12]) rfl (by kernel_rfl) rfl
  obtain ⟨j, eg3_3_1_1, _, w_j⟩ := DataW.trod_int Try.underlying3 g3_3_1_1
  obtain rfl := List.singleton_inj.1 eg3_3_1_1
  obtain ⟨mg3_3_1_2, yg3_3_1_2, g3_3_1_2⟩ := trod_sub' Try.underlying31 g3_3_1 2 3 1 (u := 2) (ds := [c3_13]) rfl (by kernel_rfl) rfl
  obtain ⟨p, eg3_3_1_2, _, w_p⟩ := DataW.trod_int Try.underlying2 g3_3_1_2
  obtain rfl := List.singleton_inj.1 eg3_3_1_2
  obtain ⟨mg3_3_1_3, yg3_3_1_3, g3_3_1_3⟩ := trod_sub' Try.underlying31 g3_3_1 3 4 1 (u := 2) (ds := [c3_14]) rfl (by kernel_rfl) rfl
  obtain ⟨f, eg3_3_1_3, _, w_f⟩ := DataW.trod_int Try.underlying2 g3_3_1_3
  obtain rfl := List.singleton_inj.1 eg3_3_1_3
  obtain ⟨mg3_3_2, yg3_3_2, g3_3_2⟩ := trod_sub' Try.underlying34 g3_3 2 6 1 (u := 32) (ds := [c3_15]) rfl (by kernel_rfl) rfl
  obtain ⟨rt, h_rt, w_rt⟩ := open_rowT Try.underlying32 Try.underlying21 (by kernel_rfl) g3_3_2
  have r_fk : -9223372036854775808 ≤ fk ∧ fk ≤ 9223372036854775807 := by
    simp only [Lit.wf, IntKind.min, IntKind.max, IntKind.signed, IntKind.bits, Bool.and_eq_true, decide_eq_true_eq] at w_fk
    simpa using w_fk
  have r_fr : -9223372036854775808 ≤ fr ∧ fr ≤ 9223372036854775807 := by
    simp only [Lit.wf, IntKind.min, IntKind.max, IntKind.signed, IntKind.bits, Bool.and_eq_true, decide_eq_true_eq] at w_fr
    simpa using w_fr
  have r_gk : -9223372036854775808 ≤ gk ∧ gk ≤ 9223372036854775807 := by
    simp only [Lit.wf, IntKind.min, IntKind.max, IntKind.signed, IntKind.bits, Bool.and_eq_true, decide_eq_true_eq] at w_gk
    simpa using w_gk
  have r_gr : -9223372036854775808 ≤ gr ∧ gr ≤ 9223372036854775807 := by
    simp only [Lit.wf, IntKind.min, IntKind.max, IntKind.signed, IntKind.bits, Bool.and_eq_true, decide_eq_true_eq] at w_gr
    simpa using w_gr
  have r_mi : -9223372036854775808 ≤ mi ∧ mi ≤ 9223372036854775807 := by
    simp only [Lit.wf, IntKind.min, IntKind.max, IntKind.signed, IntKind.bits, Bool.and_eq_true, decide_eq_true_eq] at w_mi
    simpa using w_mi
  have r_mo : -9223372036854775808 ≤ mo ∧ mo ≤ 9223372036854775807 := by
    simp only [Lit.wf, IntKind.min, IntKind.max, IntKind.signed, IntKind.bits, Bool.and_eq_true, decide_eq_true_eq] at w_mo
    simpa using w_mo
  have r_c : -9223372036854775808 ≤ c ∧ c ≤ 9223372036854775807 := by
    simp only [Lit.wf, IntKind.min, IntKind.max, IntKind.signed, IntKind.bits, Bool.and_eq_true, decide_eq_true_eq] at w_c
    simpa using w_c
  have r_n : -9223372036854775808 ≤ n ∧ n ≤ 9223372036854775807 := by
    simp only [Lit.wf, IntKind.min, IntKind.max, IntKind.signed, IntKind.bits, Bool.and_eq_true, decide_eq_true_eq] at w_n
    simpa using w_n
  have r_d : -9223372036854775808 ≤ d ∧ d ≤ 9223372036854775807 := by
    simp only [Lit.wf, IntKind.min, IntKind.max, IntKind.signed, IntKind.bits, Bool.and_eq_true, decide_eq_true_eq] at w_d
    simpa using w_d
  have r_j : -9223372036854775808 ≤ j ∧ j ≤ 9223372036854775807 := by
    simp only [Lit.wf, IntKind.min, IntKind.max, IntKind.signed, IntKind.bits, Bool.and_eq_true, decide_eq_true_eq] at w_j
    simpa using w_j
  have r_p : -9223372036854775808 ≤ p ∧ p ≤ 9223372036854775807 := by
    simp only [Lit.wf, IntKind.min, IntKind.max, IntKind.signed, IntKind.bits, Bool.and_eq_true, decide_eq_true_eq] at w_p
    simpa using w_p
  have r_f : -9223372036854775808 ≤ f ∧ f ≤ 9223372036854775807 := by
    simp only [Lit.wf, IntKind.min, IntKind.max, IntKind.signed, IntKind.bits, Bool.and_eq_true, decide_eq_true_eq] at w_f
    simpa using w_f
  have hcalls := pure_of_callB y16_ok noCall_ok (m := 10) (e_law k r l k' r' l' sd fk fr fm gk gr gm mi mo co c n d j p f rt (byt_of_wf w_sd)) rfl (fun b _ => b < W.heap.size) W [.agg #[.int .i64 k, .int .i64 r, c0_2], .agg #[.int .i64 k', .int .i64 r', c1_2], .slice a_sd len_sd cap_sd, .agg #[.int .i64 fk, .int .i64 fr, c3_2, .int .i64 gk, .int .i64 gr, c3_5, .int .i64 mi, .int .i64 mo, c3_8, .int .i64 c, .int .i64 n, .int .i64 d, .int .i64 j, .int .i64 p, .int .i64 f, c3_15]] (fun b _ h => h)
    (.cons ⟨_, rfl, (.cons (.int _ _) (.cons (.int _ _) (.cons h_l .nil)))⟩ (.cons ⟨_, rfl, (.cons (.int _ _) (.cons (.int _ _) (.cons h_l' .nil)))⟩ (.cons h_sd (.cons ⟨_, rfl, (.cons (.int _ _) (.cons (.int _ _) (.cons h_fm (.cons (.int _ _) (.cons (.int _ _) (.cons h_gm (.cons (.int _ _) (.cons (.int _ _) (.cons h_co (.cons (.int _ _) (.cons (.int _ _) (.cons (.int _ _) (.cons (.int _ _) (.cons (.int _ _) (.cons (.int _ _) (.cons h_rt .nil))))))))))))))))⟩ .nil))))
  refine hcalls.mono fun e W' ⟨V, he, hs, hbl, hos, hout, hV⟩ => ?_
  cases hV
  exact ⟨_, he, law_post laidOut hW' rfl rfl rfl rfl (by kernel_rfl) Try.underlying4 (by rw [Try.params3]; intro t ht; simp at ht; rcases ht with rfl | rfl | rfl <;> exact ⟨by kernel_rfl, by decide +kernel⟩) hos hout hbl⟩

theorem convertMakes_holds : Rows.ConvertMakesSaid :=
  OpenClaim.holds_of_wide 3 Try.f3 rfl rfl rfl rfl rfl rfl rfl ⟨rfl, rfl, rfl, rfl, rfl⟩ rfl rfl rfl rfl rfl (by kernel_rfl) Try.func3 (by kernel_rfl)
    (of_decide_eq_true (by kernel_rfl)) (by unfold Func.isWrapper; first | (rw [if_pos (by decide +kernel)]; kernel_rfl) | (rw [if_neg (by decide +kernel)]; exact ⟨rfl, rfl⟩))
    (fun os started H enc _ => convertMakes_lifted os started H enc)

end Go.Proofs.Ytooiechjanmdjaa
