/- The models of the phase's functions where they refuse nothing. -/
import Derived.Test.YtcpidomblalmpaaPhJ
namespace Go.Proofs.Ytcpidomblalmpaa
open Am
set_option maxRecDepth 100000
set_option linter.unusedVariables false
set_option linter.unusedSimpArgs false
namespace M
def okT (num den adj pos frac n : Int) : Bool := valid num den adj pos frac && decide (-4096 ≤ n) && decide (n ≤ 4096)
def okN (num den adj pos frac n : Int) : Bool := valid num den adj pos frac && decide (0 ≤ n) && decide (n ≤ 65536)
def okM (num den adj pos frac n : Int) : Bool := valid num den adj pos frac && decide (0 ≤ n) && decide (n ≤ 1099511627776)
def okA (num den adj pos frac n : Int) : Bool := valid num den adj pos frac && decide (0 ≤ n) && decide (n ≤ 65536) && decide (posOf ⟨num, den, adj, pos, frac⟩ n ≤ 1125899906842624)
end M
def h15 : List AV → Option (Bool × AV)
  | [.agg [.int .i64 num, .int .i64 den, .int .i64 adj, .int .i64 pos, .int .i64 frac], .int .i64 n] => some (M.okT num den adj pos frac n, .tuple [.agg [.int .i64 num, .int .i64 den, .int .i64 n, .int .i64 pos, .int .i64 frac], .int .i64 0])
  | _ => none
noncomputable def g1 : Cfg := d37.add 15 h15
theorem cnt_of' {p : M.Ph} (h : PV p) {lim : Int} (h1 : 0 ≤ lim) (h2 : lim ≤ 1099511627776) : M.mkErr p.num p.den p.adj p.pos p.frac lim = 0 := by
  unfold M.mkErr; rw [h, decide_eq_false (by omega), decide_eq_false (by omega)]; rfl
theorem nd_ok' {p : M.Ph} (h : PV p) {n : Int} (hn : 0 ≤ n) (hn2 : n ≤ 65536) : M.ndV p.num p.den p.adj p.pos p.frac n = needOf p n := by
  unfold M.ndV
  rw [chk_z (chk_ok h hn hn2), cond_false, need_ok h hn hn2]
theorem g1_ok : CfgOK g1 := add_ok d37_ok fun xs v h => by
  unfold h15 at h; split at h
  · simp only [Option.some.injEq, Prod.mk.injEq] at h
    obtain ⟨h1, rfl⟩ := h
    rename_i num den adj pos frac n
    unfold M.okT at h1
    simp only [Bool.and_eq_true, decide_eq_true_eq] at h1
    obtain ⟨hr, he⟩ := rtP_ok (p := ⟨num, den, adj, pos, frac⟩) h1.1.1 h1.1.2 h1.2
    have e := e15 num den adj pos frac n
    simp only at he
    rw [he] at e
    exact pure_of_callB c27_ok noCall_ok e rfl
  · cases h
def h21 : List AV → Option (Bool × AV)
  | [.agg [.int .i64 num, .int .i64 den, .int .i64 adj, .int .i64 pos, .int .i64 frac], .int .i64 n] => some (M.okN num den adj pos frac n, .tuple [.int .i64 (needOf ⟨num, den, adj, pos, frac⟩ n), .int .i64 0])
  | _ => none
noncomputable def g2 : Cfg := g1.add 21 h21
theorem g2_ok : CfgOK g2 := add_ok g1_ok fun xs v h => by
  unfold h21 at h; split at h
  · simp only [Option.some.injEq, Prod.mk.injEq] at h
    obtain ⟨h1, rfl⟩ := h
    rename_i num den adj pos frac n
    unfold M.okN at h1
    simp only [Bool.and_eq_true, decide_eq_true_eq] at h1
    have hv : PV ⟨num, den, adj, pos, frac⟩ := h1.1.1
    have a := nd_ok' hv h1.1.2 h1.2
    have b := chk_ok hv h1.1.2 h1.2
    have e := e21 num den adj pos frac n
    simp only at a b
    rw [a, b] at e
    exact pure_of_callB d29_ok noCall_ok e rfl
  · cases h
def h23 : List AV → Option (Bool × AV)
  | [.agg [.int .i64 num, .int .i64 den, .int .i64 adj, .int .i64 pos, .int .i64 frac], .int .i64 n] => some (M.okM num den adj pos frac n, .tuple [.int .i64 (M.mkCnt num den adj pos frac n), .int .i64 0])
  | _ => none
noncomputable def g3 : Cfg := g2.add 23 h23
theorem g3_ok : CfgOK g3 := add_ok g2_ok fun xs v h => by
  unfold h23 at h; split at h
  · simp only [Option.some.injEq, Prod.mk.injEq] at h
    obtain ⟨h1, rfl⟩ := h
    rename_i num den adj pos frac n
    unfold M.okM at h1
    simp only [Bool.and_eq_true, decide_eq_true_eq] at h1
    have hv : PV ⟨num, den, adj, pos, frac⟩ := h1.1.1
    have b := cnt_of' hv h1.1.2 h1.2
    have e := e23 num den adj pos frac n
    simp only at b
    rw [b] at e
    exact pure_of_callB d34_ok noCall_ok e rfl
  · cases h
def h11 : List AV → Option (Bool × AV)
  | [.agg [.int .i64 num, .int .i64 den, .int .i64 adj, .int .i64 pos, .int .i64 frac], .int .i64 n] => some (M.okA num den adj pos frac n, .tuple [.agg [.int .i64 num, .int .i64 den, .int .i64 adj, .int .i64 (posOf ⟨num, den, adj, pos, frac⟩ n), .int .i64 (fracOf ⟨num, den, adj, pos, frac⟩ n)], .int .i64 0])
  | _ => none
noncomputable def g4 : Cfg := g3.add 11 h11
theorem g4_ok : CfgOK g4 := add_ok g3_ok fun xs v h => by
  unfold h11 at h; split at h
  · simp only [Option.some.injEq, Prod.mk.injEq] at h
    obtain ⟨h1, rfl⟩ := h
    rename_i num den adj pos frac n
    unfold M.okA at h1
    simp only [Bool.and_eq_true, decide_eq_true_eq] at h1
    have hv : PV ⟨num, den, adj, pos, frac⟩ := h1.1.1.1
    obtain ⟨a, b, _, _⟩ := adv_ok hv h1.1.1.2 h1.1.2 h1.2
    obtain ⟨x, _, y, _⟩ := at_ok hv h1.1.1.2 h1.1.2
    have e := e11 num den adj pos frac n
    have a' : M.adE num den adj pos frac n = 0 := a
    simp only at x y
    rw [a', x, y] at e
    exact pure_of_callB c16_ok noCall_ok e rfl
  · cases h
end Go.Proofs.Ytcpidomblalmpaa
