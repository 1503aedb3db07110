/- PhaseMoves holds for every input: which phases are valid, positions, advanced and retuned phases, or the error. -/
import Derived.Test.YtcpidomblalmpaaPhF
namespace Go.Proofs.Ytcpidomblalmpaa
open Am
open Go.ChangeShapes Go.WideShapes Go.ChangeAt Go.RowKit
set_option maxRecDepth 100000
set_option linter.unusedVariables false

theorem chk_zero {num den adj pos frac n : Int} (h : M.chk num den adj pos frac n = 0) : PV ⟨num, den, adj, pos, frac⟩ ∧ 0 ≤ n ∧ n ≤ 65536 := by
  unfold M.chk at h
  cases hv : M.valid num den adj pos frac with
  | false => simp [hv] at h
  | true =>
    rw [hv] at h
    by_cases h1 : n < 0
    · rw [decide_eq_true h1] at h; simp at h
    · by_cases h2 : n > 65536
      · rw [decide_eq_false h1, decide_eq_true h2] at h; simp at h
      · exact ⟨hv, by omega, by omega⟩
theorem rAtP_same (num den adj pos frac n : Int) : M.rAtP num den adj pos frac n = M.atP num den adj pos frac n := by
  by_cases h : M.chk num den adj pos frac n = 0
  · obtain ⟨hv, h0, h1⟩ := chk_zero h
    obtain ⟨a, b, _, _⟩ := at_ok hv h0 h1
    exact b.trans a.symm
  · have : (M.chk num den adj pos frac n != 0) = true := by simpa using h
    unfold M.rAtP M.atP; rw [this]; rfl
theorem rAtF_same (num den adj pos frac n : Int) : M.rAtF num den adj pos frac n = M.atF num den adj pos frac n := by
  by_cases h : M.chk num den adj pos frac n = 0
  · obtain ⟨hv, h0, h1⟩ := chk_zero h
    obtain ⟨_, _, a, b⟩ := at_ok hv h0 h1
    exact b.trans a.symm
  · have : (M.chk num den adj pos frac n != 0) = true := by simpa using h
    unfold M.rAtF M.atF; rw [this]; rfl
theorem rAdE_same (num den adj pos frac n : Int) : M.rAdE num den adj pos frac n = M.adE num den adj pos frac n := by
  unfold M.rAdE M.adE; rw [rAtP_same]

theorem e4_tree (b : List Int) (num den adj pos frac n m rn rd : Int) : callB d28 noCall 10 4 [.agg [.int .i64 num, .int .i64 den, .int .i64 adj, .int .i64 pos, .int .i64 frac], .vi .u8 b, .int .i64 n, .int .i64 m, .agg [.int .i64 rn, .int .i64 rd]] [] 0 =
bif M.byt b && true then
  bif
      !M.atP num den adj pos frac ([n, n.tmod 2000].getD 0 0) !=
          M.rAtP num den adj pos frac ([n, n.tmod 2000].getD 0 0) then
    bif
        !M.atF num den adj pos frac ([n, n.tmod 2000].getD 0 0) !=
            M.rAtF num den adj pos frac ([n, n.tmod 2000].getD 0 0) then
      bif
          !M.chk num den adj pos frac ([n, n.tmod 2000].getD 0 0) !=
              M.chk num den adj pos frac ([n, n.tmod 2000].getD 0 0) then
        bif
            !!(M.un (M.adE num den adj pos frac ([n, n.tmod 2000].getD 0 0)) num ==
                      M.un (M.rAdE num den adj pos frac ([n, n.tmod 2000].getD 0 0)) num &&
                    (M.un (M.adE num den adj pos frac ([n, n.tmod 2000].getD 0 0)) den ==
                        M.un (M.rAdE num den adj pos frac ([n, n.tmod 2000].getD 0 0)) den &&
                      true) &&
                  (M.un (M.adE num den adj pos frac ([n, n.tmod 2000].getD 0 0)) adj ==
                      M.un (M.rAdE num den adj pos frac ([n, n.tmod 2000].getD 0 0)) adj &&
                    (M.un (M.adE num den adj pos frac ([n, n.tmod 2000].getD 0 0))
                          (M.atP num den adj pos frac ([n, n.tmod 2000].getD 0 0)) ==
                        M.un (M.rAdE num den adj pos frac ([n, n.tmod 2000].getD 0 0))
                          (M.rAtP num den adj pos frac ([n, n.tmod 2000].getD 0 0)) &&
                      (M.un (M.adE num den adj pos frac ([n, n.tmod 2000].getD 0 0))
                            (M.atF num den adj pos frac ([n, n.tmod 2000].getD 0 0)) ==
                          M.un (M.rAdE num den adj pos frac ([n, n.tmod 2000].getD 0 0))
                            (M.rAtF num den adj pos frac ([n, n.tmod 2000].getD 0 0)) &&
                        true)))) then
          bif
              M.adE num den adj pos frac ([n, n.tmod 2000].getD 0 0) !=
                M.rAdE num den adj pos frac ([n, n.tmod 2000].getD 0 0) then
            some (AV.bool false, [], 0)
          else
            bif
                !M.atP num den adj pos frac ([n, n.tmod 2000].getD 1 0) !=
                    M.rAtP num den adj pos frac ([n, n.tmod 2000].getD 1 0) then
              bif
                  !M.atF num den adj pos frac ([n, n.tmod 2000].getD 1 0) !=
                      M.rAtF num den adj pos frac ([n, n.tmod 2000].getD 1 0) then
                bif
                    !M.chk num den adj pos frac ([n, n.tmod 2000].getD 1 0) !=
                        M.chk num den adj pos frac ([n, n.tmod 2000].getD 1 0) then
                  bif
                      !!(M.un (M.adE num den adj pos frac ([n, n.tmod 2000].getD 1 0)) num ==
                                M.un (M.rAdE num den adj pos frac ([n, n.tmod 2000].getD 1 0)) num &&
                              (M.un (M.adE num den adj pos frac ([n, n.tmod 2000].getD 1 0)) den ==
                                  M.un (M.rAdE num den adj pos frac ([n, n.tmod 2000].getD 1 0)) den &&
                                true) &&
                            (M.un (M.adE num den adj pos frac ([n, n.tmod 2000].getD 1 0)) adj ==
                                M.un (M.rAdE num den adj pos frac ([n, n.tmod 2000].getD 1 0)) adj &&
                              (M.un (M.adE num den adj pos frac ([n, n.tmod 2000].getD 1 0))
                                    (M.atP num den adj pos frac ([n, n.tmod 2000].getD 1 0)) ==
                                  M.un (M.rAdE num den adj pos frac ([n, n.tmod 2000].getD 1 0))
                                    (M.rAtP num den adj pos frac ([n, n.tmod 2000].getD 1 0)) &&
                                (M.un (M.adE num den adj pos frac ([n, n.tmod 2000].getD 1 0))
                                      (M.atF num den adj pos frac ([n, n.tmod 2000].getD 1 0)) ==
                                    M.un (M.rAdE num den adj pos frac ([n, n.tmod 2000].getD 1 0))
                                      (M.rAtF num den adj pos frac ([n, n.tmod 2000].getD 1 0)) &&
                                  true)))) then
                    bif
                        M.adE num den adj pos frac ([n, n.tmod 2000].getD 1 0) !=
                          M.rAdE num den adj pos frac ([n, n.tmod 2000].getD 1 0) then
                      some (AV.bool false, [], 0)
                    else
                      bif
                          !!(M.un (M.rtE num den adj pos frac ([m, m.tmod 4098].getD 0 0)) num ==
                                    M.un (M.rtE num den adj pos frac ([m, m.tmod 4098].getD 0 0)) num &&
                                  (M.un (M.rtE num den adj pos frac ([m, m.tmod 4098].getD 0 0)) den ==
                                      M.un (M.rtE num den adj pos frac ([m, m.tmod 4098].getD 0 0)) den &&
                                    true) &&
                                (M.un (M.rtE num den adj pos frac ([m, m.tmod 4098].getD 0 0))
                                      ([m, m.tmod 4098].getD 0 0) ==
                                    M.un (M.rtE num den adj pos frac ([m, m.tmod 4098].getD 0 0))
                                      ([m, m.tmod 4098].getD 0 0) &&
                                  (M.un (M.rtE num den adj pos frac ([m, m.tmod 4098].getD 0 0)) pos ==
                                      M.un (M.rtE num den adj pos frac ([m, m.tmod 4098].getD 0 0)) pos &&
                                    (M.un (M.rtE num den adj pos frac ([m, m.tmod 4098].getD 0 0)) frac ==
                                        M.un (M.rtE num den adj pos frac ([m, m.tmod 4098].getD 0 0)) frac &&
                                      true)))) then
                        bif
                            M.rtE num den adj pos frac ([m, m.tmod 4098].getD 0 0) !=
                              M.rtE num den adj pos frac ([m, m.tmod 4098].getD 0 0) then
                          some (AV.bool false, [], 0)
                        else
                          bif
                              !!(M.un (M.rtE num den adj pos frac ([m, m.tmod 4098].getD 1 0)) num ==
                                        M.un (M.rtE num den adj pos frac ([m, m.tmod 4098].getD 1 0)) num &&
                                      (M.un (M.rtE num den adj pos frac ([m, m.tmod 4098].getD 1 0)) den ==
                                          M.un (M.rtE num den adj pos frac ([m, m.tmod 4098].getD 1 0)) den &&
                                        true) &&
                                    (M.un (M.rtE num den adj pos frac ([m, m.tmod 4098].getD 1 0))
                                          ([m, m.tmod 4098].getD 1 0) ==
                                        M.un (M.rtE num den adj pos frac ([m, m.tmod 4098].getD 1 0))
                                          ([m, m.tmod 4098].getD 1 0) &&
                                      (M.un (M.rtE num den adj pos frac ([m, m.tmod 4098].getD 1 0)) pos ==
                                          M.un (M.rtE num den adj pos frac ([m, m.tmod 4098].getD 1 0)) pos &&
                                        (M.un (M.rtE num den adj pos frac ([m, m.tmod 4098].getD 1 0)) frac ==
                                            M.un (M.rtE num den adj pos frac ([m, m.tmod 4098].getD 1 0)) frac &&
                                          true)))) then
                            bif
                                M.rtE num den adj pos frac ([m, m.tmod 4098].getD 1 0) !=
                                  M.rtE num den adj pos frac ([m, m.tmod 4098].getD 1 0) then
                              some (AV.bool false, [], 0)
                            else
                              bif !M.valid num den adj pos frac == M.valid num den adj pos frac then
                                some (AV.bool false, [], 0)
                              else
                                bif
                                    !M.atP (M.made b).1 (M.made b).2 (M.made b).3 (M.made b).4 (M.made b).5
                                          ([n, n.tmod 2000].getD 0 0) !=
                                        M.rAtP (M.made b).1 (M.made b).2 (M.made b).3 (M.made b).4 (M.made b).5
                                          ([n, n.tmod 2000].getD 0 0) then
                                  bif
                                      !M.atF (M.made b).1 (M.made b).2 (M.made b).3 (M.made b).4 (M.made b).5
                                            ([n, n.tmod 2000].getD 0 0) !=
                                          M.rAtF (M.made b).1 (M.made b).2 (M.made b).3 (M.made b).4 (M.made b).5
                                            ([n, n.tmod 2000].getD 0 0) then
                                    bif
                                        !M.chk (M.made b).1 (M.made b).2 (M.made b).3 (M.made b).4 (M.made b).5
                                              ([n, n.tmod 2000].getD 0 0) !=
                                            M.chk (M.made b).1 (M.made b).2 (M.made b).3 (M.made b).4 (M.made b).5
                                              ([n, n.tmod 2000].getD 0 0) then
                                      bif
                                          !!(M.un
                                                      (M.adE (M.made b).1 (M.made b).2 (M.made b).3 (M.made b).4
                                                        (M.made b).5 ([n, n.tmod 2000].getD 0 0))
                                                      (M.made b).1 ==
                                                    M.un
                                                      (M.rAdE (M.made b).1 (M.made b).2 (M.made b).3 (M.made b).4
                                                        (M.made b).5 ([n, n.tmod 2000].getD 0 0))
                                                      (M.made b).1 &&
                                                  (M.un
                                                        (M.adE (M.made b).1 (M.made b).2 (M.made b).3 (M.made b).4
                                                          (M.made b).5 ([n, n.tmod 2000].getD 0 0))
                                                        (M.made b).2 ==
                                                      M.un
                                                        (M.rAdE (M.made b).1 (M.made b).2 (M.made b).3 (M.made b).4
                                                          (M.made b).5 ([n, n.tmod 2000].getD 0 0))
                                                        (M.made b).2 &&
                                                    true) &&
                                                (M.un
                                                      (M.adE (M.made b).1 (M.made b).2 (M.made b).3 (M.made b).4
                                                        (M.made b).5 ([n, n.tmod 2000].getD 0 0))
                                                      (M.made b).3 ==
                                                    M.un
                                                      (M.rAdE (M.made b).1 (M.made b).2 (M.made b).3 (M.made b).4
                                                        (M.made b).5 ([n, n.tmod 2000].getD 0 0))
                                                      (M.made b).3 &&
                                                  (M.un
                                                        (M.adE (M.made b).1 (M.made b).2 (M.made b).3 (M.made b).4
                                                          (M.made b).5 ([n, n.tmod 2000].getD 0 0))
                                                        (M.atP (M.made b).1 (M.made b).2 (M.made b).3 (M.made b).4
                                                          (M.made b).5 ([n, n.tmod 2000].getD 0 0)) ==
                                                      M.un
                                                        (M.rAdE (M.made b).1 (M.made b).2 (M.made b).3 (M.made b).4
                                                          (M.made b).5 ([n, n.tmod 2000].getD 0 0))
                                                        (M.rAtP (M.made b).1 (M.made b).2 (M.made b).3 (M.made b).4
                                                          (M.made b).5 ([n, n.tmod 2000].getD 0 0)) &&
                                                    (M.un
                                                          (M.adE (M.made b).1 (M.made b).2 (M.made b).3 (M.made b).4
                                                            (M.made b).5 ([n, n.tmod 2000].getD 0 0))
                                                          (M.atF (M.made b).1 (M.made b).2 (M.made b).3 (M.made b).4
                                                            (M.made b).5 ([n, n.tmod 2000].getD 0 0)) ==
                                                        M.un
                                                          (M.rAdE (M.made b).1 (M.made b).2 (M.made b).3 (M.made b).4
                                                            (M.made b).5 ([n, n.tmod 2000].getD 0 0))
                                                          (M.rAtF (M.made b).1 (M.made b).2 (M.made b).3 (M.made b).4
                                                            (M.made b).5 ([n, n.tmod 2000].getD 0 0)) &&
                                                      true)))) then
                                        bif
                                            M.adE (M.made b).1 (M.made b).2 (M.made b).3 (M.made b).4 (M.made b).5
                                                ([n, n.tmod 2000].getD 0 0) !=
                                              M.rAdE (M.made b).1 (M.made b).2 (M.made b).3 (M.made b).4 (M.made b).5
                                                ([n, n.tmod 2000].getD 0 0) then
                                          some (AV.bool false, [], 0)
                                        else
                                          bif
                                              !M.atP (M.made b).1 (M.made b).2 (M.made b).3 (M.made b).4 (M.made b).5
                                                    ([n, n.tmod 2000].getD 1 0) !=
                                                  M.rAtP (M.made b).1 (M.made b).2 (M.made b).3 (M.made b).4
                                                    (M.made b).5 ([n, n.tmod 2000].getD 1 0) then
                                            bif
                                                !M.atF (M.made b).1 (M.made b).2 (M.made b).3 (M.made b).4 (M.made b).5
                                                      ([n, n.tmod 2000].getD 1 0) !=
                                                    M.rAtF (M.made b).1 (M.made b).2 (M.made b).3 (M.made b).4
                                                      (M.made b).5 ([n, n.tmod 2000].getD 1 0) then
                                              bif
                                                  !M.chk (M.made b).1 (M.made b).2 (M.made b).3 (M.made b).4
                                                        (M.made b).5 ([n, n.tmod 2000].getD 1 0) !=
                                                      M.chk (M.made b).1 (M.made b).2 (M.made b).3 (M.made b).4
                                                        (M.made b).5 ([n, n.tmod 2000].getD 1 0) then
                                                bif
                                                    !!(M.un
                                                                (M.adE (M.made b).1 (M.made b).2 (M.made b).3
                                                                  (M.made b).4 (M.made b).5 ([n, n.tmod 2000].getD 1 0))
                                                                (M.made b).1 ==
                                                              M.un
                                                                (M.rAdE (M.made b).1 (M.made b).2 (M.made b).3
                                                                  (M.made b).4 (M.made b).5 ([n, n.tmod 2000].getD 1 0))
                                                                (M.made b).1 &&
                                                            (M.un
                                                                  (M.adE (M.made b).1 (M.made b).2 (M.made b).3
                                                                    (M.made b).4 (M.made b).5
                                                                    ([n, n.tmod 2000].getD 1 0))
                                                                  (M.made b).2 ==
                                                                M.un
                                                                  (M.rAdE (M.made b).1 (M.made b).2 (M.made b).3
                                                                    (M.made b).4 (M.made b).5
                                                                    ([n, n.tmod 2000].getD 1 0))
                                                                  (M.made b).2 &&
                                                              true) &&
                                                          (M.un
                                                                (M.adE (M.made b).1 (M.made b).2 (M.made b).3
                                                                  (M.made b).4 (M.made b).5 ([n, n.tmod 2000].getD 1 0))
                                                                (M.made b).3 ==
                                                              M.un
                                                                (M.rAdE (M.made b).1 (M.made b).2 (M.made b).3
                                                                  (M.made b).4 (M.made b).5 ([n, n.tmod 2000].getD 1 0))
                                                                (M.made b).3 &&
                                                            (M.un
                                                                  (M.adE (M.made b).1 (M.made b).2 (M.made b).3
                                                                    (M.made b).4 (M.made b).5
                                                                    ([n, n.tmod 2000].getD 1 0))
                                                                  (M.atP (M.made b).1 (M.made b).2 (M.made b).3
                                                                    (M.made b).4 (M.made b).5
                                                                    ([n, n.tmod 2000].getD 1 0)) ==
                                                                M.un
                                                                  (M.rAdE (M.made b).1 (M.made b).2 (M.made b).3
                                                                    (M.made b).4 (M.made b).5
                                                                    ([n, n.tmod 2000].getD 1 0))
                                                                  (M.rAtP (M.made b).1 (M.made b).2 (M.made b).3
                                                                    (M.made b).4 (M.made b).5
                                                                    ([n, n.tmod 2000].getD 1 0)) &&
                                                              (M.un
                                                                    (M.adE (M.made b).1 (M.made b).2 (M.made b).3
                                                                      (M.made b).4 (M.made b).5
                                                                      ([n, n.tmod 2000].getD 1 0))
                                                                    (M.atF (M.made b).1 (M.made b).2 (M.made b).3
                                                                      (M.made b).4 (M.made b).5
                                                                      ([n, n.tmod 2000].getD 1 0)) ==
                                                                  M.un
                                                                    (M.rAdE (M.made b).1 (M.made b).2 (M.made b).3
                                                                      (M.made b).4 (M.made b).5
                                                                      ([n, n.tmod 2000].getD 1 0))
                                                                    (M.rAtF (M.made b).1 (M.made b).2 (M.made b).3
                                                                      (M.made b).4 (M.made b).5
                                                                      ([n, n.tmod 2000].getD 1 0)) &&
                                                                true)))) then
                                                  bif
                                                      M.adE (M.made b).1 (M.made b).2 (M.made b).3 (M.made b).4
                                                          (M.made b).5 ([n, n.tmod 2000].getD 1 0) !=
                                                        M.rAdE (M.made b).1 (M.made b).2 (M.made b).3 (M.made b).4
                                                          (M.made b).5 ([n, n.tmod 2000].getD 1 0) then
                                                    some (AV.bool false, [], 0)
                                                  else
                                                    bif
                                                        !!(M.un
                                                                    (M.rtE (M.made b).1 (M.made b).2 (M.made b).3
                                                                      (M.made b).4 (M.made b).5
                                                                      ([m, m.tmod 4098].getD 0 0))
                                                                    (M.made b).1 ==
                                                                  M.un
                                                                    (M.rtE (M.made b).1 (M.made b).2 (M.made b).3
                                                                      (M.made b).4 (M.made b).5
                                                                      ([m, m.tmod 4098].getD 0 0))
                                                                    (M.made b).1 &&
                                                                (M.un
                                                                      (M.rtE (M.made b).1 (M.made b).2 (M.made b).3
                                                                        (M.made b).4 (M.made b).5
                                                                        ([m, m.tmod 4098].getD 0 0))
                                                                      (M.made b).2 ==
                                                                    M.un
                                                                      (M.rtE (M.made b).1 (M.made b).2 (M.made b).3
                                                                        (M.made b).4 (M.made b).5
                                                                        ([m, m.tmod 4098].getD 0 0))
                                                                      (M.made b).2 &&
                                                                  true) &&
                                                              (M.un
                                                                    (M.rtE (M.made b).1 (M.made b).2 (M.made b).3
                                                                      (M.made b).4 (M.made b).5
                                                                      ([m, m.tmod 4098].getD 0 0))
                                                                    ([m, m.tmod 4098].getD 0 0) ==
                                                                  M.un
                                                                    (M.rtE (M.made b).1 (M.made b).2 (M.made b).3
                                                                      (M.made b).4 (M.made b).5
                                                                      ([m, m.tmod 4098].getD 0 0))
                                                                    ([m, m.tmod 4098].getD 0 0) &&
                                                                (M.un
                                                                      (M.rtE (M.made b).1 (M.made b).2 (M.made b).3
                                                                        (M.made b).4 (M.made b).5
                                                                        ([m, m.tmod 4098].getD 0 0))
                                                                      (M.made b).4 ==
                                                                    M.un
                                                                      (M.rtE (M.made b).1 (M.made b).2 (M.made b).3
                                                                        (M.made b).4 (M.made b).5
                                                                        ([m, m.tmod 4098].getD 0 0))
                                                                      (M.made b).4 &&
                                                                  (M.un
                                                                        (M.rtE (M.made b).1 (M.made b).2 (M.made b).3
                                                                          (M.made b).4 (M.made b).5
                                                                          ([m, m.tmod 4098].getD 0 0))
                                                                        (M.made b).5 ==
                                                                      M.un
                                                                        (M.rtE (M.made b).1 (M.made b).2 (M.made b).3
                                                                          (M.made b).4 (M.made b).5
                                                                          ([m, m.tmod 4098].getD 0 0))
                                                                        (M.made b).5 &&
                                                                    true)))) then
                                                      bif
                                                          M.rtE (M.made b).1 (M.made b).2 (M.made b).3 (M.made b).4
                                                              (M.made b).5 ([m, m.tmod 4098].getD 0 0) !=
                                                            M.rtE (M.made b).1 (M.made b).2 (M.made b).3 (M.made b).4
                                                              (M.made b).5 ([m, m.tmod 4098].getD 0 0) then
                                                        some (AV.bool false, [], 0)
                                                      else
                                                        bif
                                                            !!(M.un
                                                                        (M.rtE (M.made b).1 (M.made b).2 (M.made b).3
                                                                          (M.made b).4 (M.made b).5
                                                                          ([m, m.tmod 4098].getD 1 0))
                                                                        (M.made b).1 ==
                                                                      M.un
                                                                        (M.rtE (M.made b).1 (M.made b).2 (M.made b).3
                                                                          (M.made b).4 (M.made b).5
                                                                          ([m, m.tmod 4098].getD 1 0))
                                                                        (M.made b).1 &&
                                                                    (M.un
                                                                          (M.rtE (M.made b).1 (M.made b).2 (M.made b).3
                                                                            (M.made b).4 (M.made b).5
                                                                            ([m, m.tmod 4098].getD 1 0))
                                                                          (M.made b).2 ==
                                                                        M.un
                                                                          (M.rtE (M.made b).1 (M.made b).2 (M.made b).3
                                                                            (M.made b).4 (M.made b).5
                                                                            ([m, m.tmod 4098].getD 1 0))
                                                                          (M.made b).2 &&
                                                                      true) &&
                                                                  (M.un
                                                                        (M.rtE (M.made b).1 (M.made b).2 (M.made b).3
                                                                          (M.made b).4 (M.made b).5
                                                                          ([m, m.tmod 4098].getD 1 0))
                                                                        ([m, m.tmod 4098].getD 1 0) ==
                                                                      M.un
                                                                        (M.rtE (M.made b).1 (M.made b).2 (M.made b).3
                                                                          (M.made b).4 (M.made b).5
                                                                          ([m, m.tmod 4098].getD 1 0))
                                                                        ([m, m.tmod 4098].getD 1 0) &&
                                                                    (M.un
                                                                          (M.rtE (M.made b).1 (M.made b).2 (M.made b).3
                                                                            (M.made b).4 (M.made b).5
                                                                            ([m, m.tmod 4098].getD 1 0))
                                                                          (M.made b).4 ==
                                                                        M.un
                                                                          (M.rtE (M.made b).1 (M.made b).2 (M.made b).3
                                                                            (M.made b).4 (M.made b).5
                                                                            ([m, m.tmod 4098].getD 1 0))
                                                                          (M.made b).4 &&
                                                                      (M.un
                                                                            (M.rtE (M.made b).1 (M.made b).2
                                                                              (M.made b).3 (M.made b).4 (M.made b).5
                                                                              ([m, m.tmod 4098].getD 1 0))
                                                                            (M.made b).5 ==
                                                                          M.un
                                                                            (M.rtE (M.made b).1 (M.made b).2
                                                                              (M.made b).3 (M.made b).4 (M.made b).5
                                                                              ([m, m.tmod 4098].getD 1 0))
                                                                            (M.made b).5 &&
                                                                        true)))) then
                                                          bif
                                                              M.rtE (M.made b).1 (M.made b).2 (M.made b).3 (M.made b).4
                                                                  (M.made b).5 ([m, m.tmod 4098].getD 1 0) !=
                                                                M.rtE (M.made b).1 (M.made b).2 (M.made b).3
                                                                  (M.made b).4 (M.made b).5
                                                                  ([m, m.tmod 4098].getD 1 0) then
                                                            some (AV.bool false, [], 0)
                                                          else
                                                            bif
                                                                !M.valid (M.made b).1 (M.made b).2 (M.made b).3
                                                                      (M.made b).4 (M.made b).5 ==
                                                                    M.valid (M.made b).1 (M.made b).2 (M.made b).3
                                                                      (M.made b).4 (M.made b).5 then
                                                              some (AV.bool false, [], 0)
                                                            else
                                                              bif
                                                                  M.un (M.nwE rn rd) rn == M.un (M.nwE rn rd) rn &&
                                                                      (M.un (M.nwE rn rd) rd == M.un (M.nwE rn rd) rd &&
                                                                        true) &&
                                                                    true then
                                                                some (AV.bool (M.nwE rn rd == M.nwE rn rd), [], 0)
                                                              else some (AV.bool false, [], 0)
                                                        else some (AV.bool false, [], 0)
                                                    else some (AV.bool false, [], 0)
                                                else some (AV.bool false, [], 0)
                                              else some (AV.bool false, [], 0)
                                            else some (AV.bool false, [], 0)
                                          else some (AV.bool false, [], 0)
                                      else some (AV.bool false, [], 0)
                                    else some (AV.bool false, [], 0)
                                  else some (AV.bool false, [], 0)
                                else some (AV.bool false, [], 0)
                          else some (AV.bool false, [], 0)
                      else some (AV.bool false, [], 0)
                  else some (AV.bool false, [], 0)
                else some (AV.bool false, [], 0)
              else some (AV.bool false, [], 0)
            else some (AV.bool false, [], 0)
        else some (AV.bool false, [], 0)
      else some (AV.bool false, [], 0)
    else some (AV.bool false, [], 0)
  else some (AV.bool false, [], 0)
else none := by kernel_rfl

theorem e4 (b : List Int) (num den adj pos frac n m rn rd : Int) (hb : M.byt b = true) : callB d28 noCall 10 4 [.agg [.int .i64 num, .int .i64 den, .int .i64 adj, .int .i64 pos, .int .i64 frac], .vi .u8 b, .int .i64 n, .int .i64 m, .agg [.int .i64 rn, .int .i64 rd]] [] 0 = some (.bool true, [], 0) := by
  rw [e4_tree]
  simp only [rAtP_same, rAtF_same, rAdE_same, hb, bne_self_eq_false, beq_self_eq_true, Bool.and_true, Bool.not_false, Bool.not_true, cond_true, cond_false]

theorem moves_lifted (os : Os) (started : os.Started) (H : Type) (enc : TypeId × Value → H) :
    ReturnsInHanded {} Try.checked os 4 .any (Rows.phaseMovesSpec.pre6 enc Try.prog Try.f4 Rows.phaseMovesRow.domain false) (Rows.phaseMovesSpec.post enc Try.prog Try.f4 false true false false) := by
  refine returnsInHanded_of_change (C := Try.checked) own started (by kernel_rfl) Try.func4
    (ChangeSpec.witness6 (enc := enc) (C := Try.checked) false ⟨#[], #[.agg #[.int .i64 0, .int .i64 0, .int .i64 0, .int .i64 0, .int .i64 0], .slice none 0 0, .int .i64 0, .int .i64 0, .agg #[.int .i64 0, .int .i64 0]], []⟩ 8 (by kernel_rfl) (by kernel_rfl) (by kernel_rfl) (by kernel_rfl)) ?_
  intro W base args ds gs before hval0 hW hcnd _
  have hval : ∀ (j : Nat) t v, Try.f4.params[j]? = some t → args[j]? = some v → Value.okWide Try.prog W .any base t v := hval0
  have hW' := hW
  obtain ⟨p, q, hA0, hV, rfl, hfz, hnd⟩ := hW
  have hA : DataW.TrodAll enc Try.prog W 0 (fun _ => true) true Try.f4.params.toList args.toList ds p := hA0
  rw [Try.params4] at hA hval
  obtain ⟨v0, vs1, d0, ds1, p0, ps1, hargs, rfl, rfl, h0, hA1⟩ := trodAll_cons hA
  obtain ⟨v1, vs2, d1, ds2, p1, ps2, rfl, rfl, rfl, h1, hA2⟩ := trodAll_cons hA1
  obtain ⟨v2, vs3, d2, ds3, p2, ps3, rfl, rfl, rfl, h2, hA3⟩ := trodAll_cons hA2
  obtain ⟨v3, vs4, d3, ds4, p3, ps4, rfl, rfl, rfl, h3, hA4⟩ := trodAll_cons hA3
  obtain ⟨v4, vs5, d4, ds5, p4, ps5, rfl, rfl, rfl, h4, hA5⟩ := trodAll_cons hA4
  obtain ⟨rfl, rfl, rfl⟩ := trodAll_nil hA5
  have hargs' : args = #[v0, v1, v2, v3, v4] := by apply Array.ext'; simpa using hargs
  subst hargs'
  obtain ⟨rfl, rfl⟩ := trodVars_none hV
  obtain ⟨n, rfl, rfl, rfl, wn⟩ := open_int Try.underlying3 (hval 2 3 v2 rfl rfl) h2
  obtain ⟨m, rfl, rfl, rfl, wm⟩ := open_int Try.underlying3 (hval 3 3 v3 rfl rfl) h3
  obtain ⟨a0, len, cap, rfl⟩ := okWide_slice Try.underlying22 (hval 1 22 v1 rfl rfl)
  obtain ⟨b, hb, wb⟩ := open_row' Try.underlying22 Try.underlying5 (by kernel_rfl) ⟨_, rfl, rfl⟩ h1
  obtain ⟨cs, rfl, hcs, hcell⟩ := open_cells (ts := [2, 2, 3, 2, 2]) Try.underlying27 (by kernel_rfl) (by kernel_rfl) (hval 0 27 v0 rfl rfl)
  obtain ⟨rs, rfl, hrs, rcell⟩ := open_cells (ts := [2, 2]) Try.underlying25 (by kernel_rfl) (by kernel_rfl) (hval 4 25 v4 rfl rfl)
  obtain ⟨c0, g0, k0⟩ := hcell 0 2 rfl
  obtain ⟨c1, g1, k1⟩ := hcell 1 2 rfl
  obtain ⟨c2, g2, k2⟩ := hcell 2 3 rfl
  obtain ⟨c3, g3, k3⟩ := hcell 3 2 rfl
  obtain ⟨c4, g4, k4⟩ := hcell 4 2 rfl
  obtain ⟨r0, i0, l0⟩ := rcell 0 2 rfl
  obtain ⟨r1, i1, l1⟩ := rcell 1 2 rfl
  obtain ⟨num, rfl, _⟩ := cell_int Try.underlying2 k0
  obtain ⟨den, rfl, _⟩ := cell_int Try.underlying2 k1
  obtain ⟨adj, rfl, _⟩ := cell_int Try.underlying3 k2
  obtain ⟨pos, rfl, _⟩ := cell_int Try.underlying2 k3
  obtain ⟨frac, rfl, _⟩ := cell_int Try.underlying2 k4
  obtain ⟨rn, rfl, _⟩ := cell_int Try.underlying2 l0
  obtain ⟨rd, rfl, _⟩ := cell_int Try.underlying2 l1
  have hcs' : cs = #[.int .i64 num, .int .i64 den, .int .i64 adj, .int .i64 pos, .int .i64 frac] := by
    apply Array.ext_getElem?
    intro i
    match i with
    | 0 => exact g0
    | 1 => exact g1
    | 2 => exact g2
    | 3 => exact g3
    | 4 => exact g4
    | i + 5 => rw [Array.getElem?_eq_none (by rw [hcs]; simp), Array.getElem?_eq_none (by simp)]
  have hrs' : rs = #[.int .i64 rn, .int .i64 rd] := by
    apply Array.ext_getElem?
    intro i
    match i with
    | 0 => exact i0
    | 1 => exact i1
    | i + 2 => rw [Array.getElem?_eq_none (by rw [hrs]; simp), Array.getElem?_eq_none (by simp)]
  subst hcs' hrs'
  have hcalls := pure_of_callB d28_ok noCall_ok (e4 b num den adj pos frac n m rn rd (byt_of_wf wb)) rfl (fun b _ => b < W.heap.size) W
    [.agg #[.int .i64 num, .int .i64 den, .int .i64 adj, .int .i64 pos, .int .i64 frac], .slice a0 len cap, .int .i64 n, .int .i64 m, .agg #[.int .i64 rn, .int .i64 rd]] (fun b _ h => h)
    (.cons ⟨_, rfl, .cons (.int _ _) (.cons (.int _ _) (.cons (.int _ _) (.cons (.int _ _) (.cons (.int _ _) .nil))))⟩ (.cons hb (.cons (.int _ _) (.cons (.int _ _) (.cons ⟨_, rfl, .cons (.int _ _) (.cons (.int _ _) .nil)⟩ .nil)))))
  refine hcalls.mono fun e W' ⟨V, he, hs, hbl, hos, hout, hV⟩ => ?_
  cases hV
  exact ⟨_, he, law_post laidOut hW' rfl rfl rfl rfl (by kernel_rfl) Try.underlying4 (by rw [Try.params4]; intro t ht; simp at ht; rcases ht with rfl | rfl | rfl | rfl <;> exact ⟨by kernel_rfl, by decide +kernel⟩) hos hout hbl⟩

theorem moves_holds : Rows.PhaseMovesSaid :=
  OpenClaim.holds_of_wide 4 Try.f4 rfl rfl rfl rfl rfl rfl rfl ⟨rfl, rfl, rfl, rfl, rfl⟩ rfl rfl rfl rfl rfl (by kernel_rfl) Try.func4 (by kernel_rfl)
    (of_decide_eq_true (by kernel_rfl)) (by unfold Func.isWrapper; first | (rw [if_pos (by decide +kernel)]; kernel_rfl) | (rw [if_neg (by decide +kernel)]; exact ⟨rfl, rfl⟩))
    (fun os started H enc _ => moves_lifted os started H enc)
end Go.Proofs.Ytcpidomblalmpaa
