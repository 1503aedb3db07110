/- PhaseNeeds holds for every input: how many input frames are needed, and how many output frames can be made, or the error. -/
import Derived.Test.YtcpidomblalmpaaPhJ
namespace Go.Proofs.Ytcpidomblalmpaa
open Am
open Go.ChangeShapes Go.WideShapes Go.ChangeAt Go.RowKit
set_option maxRecDepth 100000
set_option linter.unusedVariables false
theorem e6_tree (b : List Int) (num den adj pos frac n m : Int) : callB d37 noCall 10 6 [.agg [.int .i64 num, .int .i64 den, .int .i64 adj, .int .i64 pos, .int .i64 frac], .vi .u8 b, .int .i64 n, .int .i64 m] [] 0 =
bif M.byt b && true then
  bif
      !M.ndV num den adj pos frac ([n, n.tmod 2000].getD 0 0) !=
          M.rNd num den adj pos frac ([n, n.tmod 2000].getD 0 0) then
    bif
        M.chk num den adj pos frac ([n, n.tmod 2000].getD 0 0) !=
          M.chk num den adj pos frac ([n, n.tmod 2000].getD 0 0) then
      some (AV.bool false, [], 0)
    else
      bif
          !M.ndV num den adj pos frac ([n, n.tmod 2000].getD 1 0) !=
              M.rNd num den adj pos frac ([n, n.tmod 2000].getD 1 0) then
        bif
            M.chk num den adj pos frac ([n, n.tmod 2000].getD 1 0) !=
              M.chk num den adj pos frac ([n, n.tmod 2000].getD 1 0) then
          some (AV.bool false, [], 0)
        else
          bif
              !M.mkCnt num den adj pos frac ([m, m.tmod 3000, m.tmod 1099511627778].getD 0 0) !=
                  M.rCnt num den adj pos frac ([m, m.tmod 3000, m.tmod 1099511627778].getD 0 0) then
            bif
                M.mkErr num den adj pos frac ([m, m.tmod 3000, m.tmod 1099511627778].getD 0 0) !=
                  M.mkErr num den adj pos frac ([m, m.tmod 3000, m.tmod 1099511627778].getD 0 0) then
              some (AV.bool false, [], 0)
            else
              bif
                  !M.mkCnt num den adj pos frac ([m, m.tmod 3000, m.tmod 1099511627778].getD 1 0) !=
                      M.rCnt num den adj pos frac ([m, m.tmod 3000, m.tmod 1099511627778].getD 1 0) then
                bif
                    M.mkErr num den adj pos frac ([m, m.tmod 3000, m.tmod 1099511627778].getD 1 0) !=
                      M.mkErr num den adj pos frac ([m, m.tmod 3000, m.tmod 1099511627778].getD 1 0) then
                  some (AV.bool false, [], 0)
                else
                  bif
                      !M.mkCnt num den adj pos frac ([m, m.tmod 3000, m.tmod 1099511627778].getD 2 0) !=
                          M.rCnt num den adj pos frac ([m, m.tmod 3000, m.tmod 1099511627778].getD 2 0) then
                    bif
                        M.mkErr num den adj pos frac ([m, m.tmod 3000, m.tmod 1099511627778].getD 2 0) !=
                          M.mkErr num den adj pos frac ([m, m.tmod 3000, m.tmod 1099511627778].getD 2 0) then
                      some (AV.bool false, [], 0)
                    else
                      bif
                          !M.ndV (M.made b).1 (M.made b).2 (M.made b).3 (M.made b).4 (M.made b).5
                                ([n, n.tmod 2000].getD 0 0) !=
                              M.rNd (M.made b).1 (M.made b).2 (M.made b).3 (M.made b).4 (M.made b).5
                                ([n, n.tmod 2000].getD 0 0) then
                        bif
                            M.chk (M.made b).1 (M.made b).2 (M.made b).3 (M.made b).4 (M.made b).5
                                ([n, n.tmod 2000].getD 0 0) !=
                              M.chk (M.made b).1 (M.made b).2 (M.made b).3 (M.made b).4 (M.made b).5
                                ([n, n.tmod 2000].getD 0 0) then
                          some (AV.bool false, [], 0)
                        else
                          bif
                              !M.ndV (M.made b).1 (M.made b).2 (M.made b).3 (M.made b).4 (M.made b).5
                                    ([n, n.tmod 2000].getD 1 0) !=
                                  M.rNd (M.made b).1 (M.made b).2 (M.made b).3 (M.made b).4 (M.made b).5
                                    ([n, n.tmod 2000].getD 1 0) then
                            bif
                                M.chk (M.made b).1 (M.made b).2 (M.made b).3 (M.made b).4 (M.made b).5
                                    ([n, n.tmod 2000].getD 1 0) !=
                                  M.chk (M.made b).1 (M.made b).2 (M.made b).3 (M.made b).4 (M.made b).5
                                    ([n, n.tmod 2000].getD 1 0) then
                              some (AV.bool false, [], 0)
                            else
                              bif
                                  !M.mkCnt (M.made b).1 (M.made b).2 (M.made b).3 (M.made b).4 (M.made b).5
                                        ([m, m.tmod 3000, m.tmod 1099511627778].getD 0 0) !=
                                      M.rCnt (M.made b).1 (M.made b).2 (M.made b).3 (M.made b).4 (M.made b).5
                                        ([m, m.tmod 3000, m.tmod 1099511627778].getD 0 0) then
                                bif
                                    M.mkErr (M.made b).1 (M.made b).2 (M.made b).3 (M.made b).4 (M.made b).5
                                        ([m, m.tmod 3000, m.tmod 1099511627778].getD 0 0) !=
                                      M.mkErr (M.made b).1 (M.made b).2 (M.made b).3 (M.made b).4 (M.made b).5
                                        ([m, m.tmod 3000, m.tmod 1099511627778].getD 0 0) then
                                  some (AV.bool false, [], 0)
                                else
                                  bif
                                      !M.mkCnt (M.made b).1 (M.made b).2 (M.made b).3 (M.made b).4 (M.made b).5
                                            ([m, m.tmod 3000, m.tmod 1099511627778].getD 1 0) !=
                                          M.rCnt (M.made b).1 (M.made b).2 (M.made b).3 (M.made b).4 (M.made b).5
                                            ([m, m.tmod 3000, m.tmod 1099511627778].getD 1 0) then
                                    bif
                                        M.mkErr (M.made b).1 (M.made b).2 (M.made b).3 (M.made b).4 (M.made b).5
                                            ([m, m.tmod 3000, m.tmod 1099511627778].getD 1 0) !=
                                          M.mkErr (M.made b).1 (M.made b).2 (M.made b).3 (M.made b).4 (M.made b).5
                                            ([m, m.tmod 3000, m.tmod 1099511627778].getD 1 0) then
                                      some (AV.bool false, [], 0)
                                    else
                                      bif
                                          !M.mkCnt (M.made b).1 (M.made b).2 (M.made b).3 (M.made b).4 (M.made b).5
                                                ([m, m.tmod 3000, m.tmod 1099511627778].getD 2 0) !=
                                              M.rCnt (M.made b).1 (M.made b).2 (M.made b).3 (M.made b).4 (M.made b).5
                                                ([m, m.tmod 3000, m.tmod 1099511627778].getD 2 0) then
                                        bif
                                            M.mkErr (M.made b).1 (M.made b).2 (M.made b).3 (M.made b).4 (M.made b).5
                                                ([m, m.tmod 3000, m.tmod 1099511627778].getD 2 0) !=
                                              M.mkErr (M.made b).1 (M.made b).2 (M.made b).3 (M.made b).4 (M.made b).5
                                                ([m, m.tmod 3000, m.tmod 1099511627778].getD 2 0) then
                                          some (AV.bool false, [], 0)
                                        else some (AV.bool true, [], 0)
                                      else some (AV.bool false, [], 0)
                                  else some (AV.bool false, [], 0)
                              else some (AV.bool false, [], 0)
                          else some (AV.bool false, [], 0)
                      else some (AV.bool false, [], 0)
                  else some (AV.bool false, [], 0)
              else some (AV.bool false, [], 0)
          else some (AV.bool false, [], 0)
      else some (AV.bool false, [], 0)
  else some (AV.bool false, [], 0)
else none := by kernel_rfl
theorem e6 (b : List Int) (num den adj pos frac n m : Int) (hb : M.byt b = true) : callB d37 noCall 10 6 [.agg [.int .i64 num, .int .i64 den, .int .i64 adj, .int .i64 pos, .int .i64 frac], .vi .u8 b, .int .i64 n, .int .i64 m] [] 0 = some (.bool true, [], 0) := by
  rw [e6_tree]
  simp only [rNd_same, rCnt_same, hb, bne_self_eq_false, beq_self_eq_true, Bool.and_true, Bool.not_false, Bool.not_true, cond_true, cond_false]

theorem needs_lifted (os : Os) (started : os.Started) (H : Type) (enc : TypeId × Value → H) :
    ReturnsInHanded {} Try.checked os 6 .any (Rows.phaseNeedsSpec.pre6 enc Try.prog Try.f6 Rows.phaseNeedsRow.domain false) (Rows.phaseNeedsSpec.post enc Try.prog Try.f6 false true false false) := by
  refine returnsInHanded_of_change (C := Try.checked) own started (by kernel_rfl) Try.func6
    (ChangeSpec.witness6 (enc := enc) (C := Try.checked) false ⟨#[], #[.agg #[.int .i64 0, .int .i64 0, .int .i64 0, .int .i64 0, .int .i64 0], .slice none 0 0, .int .i64 0, .int .i64 0], []⟩ 8 (by kernel_rfl) (by kernel_rfl) (by kernel_rfl) (by kernel_rfl)) ?_
  intro W base args ds gs before hval0 hW hcnd _
  have hval : ∀ (j : Nat) t v, Try.f6.params[j]? = some t → args[j]? = some v → Value.okWide Try.prog W .any base t v := hval0
  have hW' := hW
  obtain ⟨p, q, hA0, hV, rfl, hfz, hnd⟩ := hW
  have hA : DataW.TrodAll enc Try.prog W 0 (fun _ => true) true Try.f6.params.toList args.toList ds p := hA0
  rw [Try.params6] at hA hval
  obtain ⟨v0, vs1, d0, ds1, p0, ps1, hargs, rfl, rfl, h0, hA1⟩ := trodAll_cons hA
  obtain ⟨v1, vs2, d1, ds2, p1, ps2, rfl, rfl, rfl, h1, hA2⟩ := trodAll_cons hA1
  obtain ⟨v2, vs3, d2, ds3, p2, ps3, rfl, rfl, rfl, h2, hA3⟩ := trodAll_cons hA2
  obtain ⟨v3, vs4, d3, ds4, p3, ps4, rfl, rfl, rfl, h3, hA4⟩ := trodAll_cons hA3
  obtain ⟨rfl, rfl, rfl⟩ := trodAll_nil hA4
  have hargs' : args = #[v0, v1, v2, v3] := by apply Array.ext'; simpa using hargs
  subst hargs'
  obtain ⟨rfl, rfl⟩ := trodVars_none hV
  obtain ⟨n, rfl, rfl, rfl, wn⟩ := open_int Try.underlying3 (hval 2 3 v2 rfl rfl) h2
  obtain ⟨m, rfl, rfl, rfl, wm⟩ := open_int Try.underlying2 (hval 3 2 v3 rfl rfl) h3
  obtain ⟨a0, len, cap, rfl⟩ := okWide_slice Try.underlying22 (hval 1 22 v1 rfl rfl)
  obtain ⟨b, hb, wb⟩ := open_row' Try.underlying22 Try.underlying5 (by kernel_rfl) ⟨_, rfl, rfl⟩ h1
  obtain ⟨cs, rfl, hcs, hcell⟩ := open_cells (ts := [2, 2, 3, 2, 2]) Try.underlying27 (by kernel_rfl) (by kernel_rfl) (hval 0 27 v0 rfl rfl)
  obtain ⟨c0, g0, k0⟩ := hcell 0 2 rfl
  obtain ⟨c1, g1, k1⟩ := hcell 1 2 rfl
  obtain ⟨c2, g2, k2⟩ := hcell 2 3 rfl
  obtain ⟨c3, g3, k3⟩ := hcell 3 2 rfl
  obtain ⟨c4, g4, k4⟩ := hcell 4 2 rfl
  obtain ⟨num, rfl, _⟩ := cell_int Try.underlying2 k0
  obtain ⟨den, rfl, _⟩ := cell_int Try.underlying2 k1
  obtain ⟨adj, rfl, _⟩ := cell_int Try.underlying3 k2
  obtain ⟨pos, rfl, _⟩ := cell_int Try.underlying2 k3
  obtain ⟨frac, rfl, _⟩ := cell_int Try.underlying2 k4
  have hcs' : cs = #[.int .i64 num, .int .i64 den, .int .i64 adj, .int .i64 pos, .int .i64 frac] := by
    apply Array.ext_getElem?
    intro i
    match i with
    | 0 => exact g0
    | 1 => exact g1
    | 2 => exact g2
    | 3 => exact g3
    | 4 => exact g4
    | i + 5 => rw [Array.getElem?_eq_none (by rw [hcs]; simp), Array.getElem?_eq_none (by simp)]
  subst hcs'
  have hcalls := pure_of_callB d37_ok noCall_ok (e6 b num den adj pos frac n m (byt_of_wf wb)) rfl (fun b _ => b < W.heap.size) W
    [.agg #[.int .i64 num, .int .i64 den, .int .i64 adj, .int .i64 pos, .int .i64 frac], .slice a0 len cap, .int .i64 n, .int .i64 m] (fun b _ h => h)
    (.cons ⟨_, rfl, .cons (.int _ _) (.cons (.int _ _) (.cons (.int _ _) (.cons (.int _ _) (.cons (.int _ _) .nil))))⟩ (.cons hb (.cons (.int _ _) (.cons (.int _ _) .nil))))
  refine hcalls.mono fun e W' ⟨V, he, hs, hbl, hos, hout, hV⟩ => ?_
  cases hV
  exact ⟨_, he, law_post laidOut hW' rfl rfl rfl rfl (by kernel_rfl) Try.underlying4 (by rw [Try.params6]; intro t ht; simp at ht; rcases ht with rfl | rfl | rfl | rfl <;> exact ⟨by kernel_rfl, by decide +kernel⟩) hos hout hbl⟩

theorem needs_holds : Rows.PhaseNeedsSaid :=
  OpenClaim.holds_of_wide 6 Try.f6 rfl rfl rfl rfl rfl rfl rfl ⟨rfl, rfl, rfl, rfl, rfl⟩ rfl rfl rfl rfl rfl (by kernel_rfl) Try.func6 (by kernel_rfl)
    (of_decide_eq_true (by kernel_rfl)) (by unfold Func.isWrapper; first | (rw [if_pos (by decide +kernel)]; kernel_rfl) | (rw [if_neg (by decide +kernel)]; exact ⟨rfl, rfl⟩))
    (fun os started H enc _ => needs_lifted os started H enc)
end Go.Proofs.Ytcpidomblalmpaa
