/- The models of conversions: the check of sanity, two formats. -/
import Derived.Test.YtooiechjanmdjaaCvL
namespace Go.Proofs.Ytooiechjanmdjaa
open Am
set_option maxRecDepth 100000
set_option linter.unusedVariables false
set_option linter.unusedSimpArgs false
set_option maxHeartbeats 4000000

theorem p_sane16 : PureOK y14.P 8 [] (.bool true) :=
  pure_of_callB (m := 10) (inls_ok y14_ok 10 5) noCall_ok (u := []) (nx := 0) (show callB (y14.inls 10 5) noCall 10 8 [] [] 0 = some (.bool true, [], 0) by kernel_rfl) rfl
def m_sane16 : List AV → Option (Bool × AV)
  | [] => some (true, .bool true)
  | _ => none
noncomputable def y15 : Cfg := y14.add 8 m_sane16
theorem y15_ok : CfgOK y15 := add_ok y14_ok fun xs v h => by
  unfold m_sane16 at h; split at h
  · cases h; exact p_sane16
  · cases h
namespace M
def fk (l : List Int) : Int := 1 + nextV 7 l
def fr (l : List Int) : Int := [48000, 44100, 8000, 96000].getD (nextV 4 (nextL 7 l)).toNat 0
def fm (l : List Int) : List Int := mapOf (nextL 4 (nextL 7 l))
def fl (l : List Int) : List Int := nextL 7 (nextL 4 (nextL 7 l))
end M
theorem fr_mem {l : List Int} (h : M.byt l = true) : M.fr l = 48000 ∨ M.fr l = 44100 ∨ M.fr l = 8000 ∨ M.fr l = 96000 := by
  have r := next_range (n := 4) (by omega) (byt_next (n := 7) h)
  unfold M.fr
  have : (M.nextV 4 (M.nextL 7 l)).toNat < 4 := by omega
  generalize (M.nextV 4 (M.nextL 7 l)).toNat = i at *
  match i, this with
  | 0, _ => exact .inl rfl
  | 1, _ => exact .inr (.inl rfl)
  | 2, _ => exact .inr (.inr (.inl rfl))
  | 3, _ => exact .inr (.inr (.inr rfl))
theorem fk_range {l : List Int} (h : M.byt l = true) : 1 ≤ M.fk l ∧ M.fk l ≤ 7 := by
  have r := next_range (n := 7) (by omega) h
  unfold M.fk
  omega
theorem byt_fl {l : List Int} (h : M.byt l = true) : M.byt (M.fl l) = true := byt_next (byt_next (byt_next h))
theorem mapOf_mem {l : List Int} (h : M.byt l = true) : M.mapOf l ∈ M.maps := by
  have r := next_range (n := 7) (by omega) h
  unfold M.mapOf
  have : (M.nextV 7 l).toNat < M.maps.length := by show _ < 7; omega
  rw [List.getD_eq_getElem?_getD, List.getElem?_eq_getElem this]
  exact List.getElem_mem this
theorem fm_mem {l : List Int} (h : M.byt l = true) : M.fm l ∈ M.maps := mapOf_mem (byt_next (byt_next h))

theorem e_formats (l : List Int) (hc : M.byt l = true) : callB y15 noCall 0 9 [.ptr 0 0 1] [(0, .fix (.cells [.vi .u8 l]))] 1 = some (.tuple [.agg [.int .i64 (M.fk l), .int .i64 (M.fr l), .vi .i64 (M.fm l)], .agg [.int .i64 (M.fk (M.fl l)), .int .i64 (M.fr (M.fl l)), .vi .i64 (M.fm (M.fl l))]], [(0, .fix (.cells [.vi .u8 (M.fl (M.fl l))]))], 1) := by
  refine (show callB y15 noCall 0 9 [.ptr 0 0 1] [(0, .fix (.cells [.vi .u8 l]))] 1 = (bif decide (0 ≤ M.nextV 4 (M.nextL 7 l)) && decide (M.nextV 4 (M.nextL 7 l) < 4) && true then (bif M.byt (M.nextL 4 (M.nextL 7 l)) && true then (bif decide (0 ≤ M.nextV 4 (M.nextL 7 (M.fl l))) && decide (M.nextV 4 (M.nextL 7 (M.fl l)) < 4) && true then (bif M.byt (M.nextL 4 (M.nextL 7 (M.fl l))) && true then some (.tuple [.agg [.int .i64 (M.w64 (1 + M.nextV 7 l)), .int .i64 (M.fr l), .vi .i64 (M.fm l)], .agg [.int .i64 (M.w64 (1 + M.nextV 7 (M.fl l))), .int .i64 (M.fr (M.fl l)), .vi .i64 (M.fm (M.fl l))]], [(0, .fix (.cells [.vi .u8 (M.fl (M.fl l))]))], 1) else none) else none) else none) else none) by kernel_rfl).trans ?_
  have b1 := byt_fl hc
  have r1 := next_range (n := 4) (by omega) (byt_next (n := 7) hc)
  have r2 := next_range (n := 4) (by omega) (byt_next (n := 7) b1)
  have f1 := fk_range hc
  have f2 := fk_range b1
  have w1 : M.w64 (1 + M.nextV 7 l) = M.fk l := w64_in (by unfold M.fk at f1; omega) (by unfold M.fk at f1; omega)
  have w2 : M.w64 (1 + M.nextV 7 (M.fl l)) = M.fk (M.fl l) := w64_in (by unfold M.fk at f2; omega) (by unfold M.fk at f2; omega)
  rw [w1, w2, decide_eq_true r1.1, decide_eq_true r1.2, decide_eq_true r2.1, decide_eq_true r2.2, byt_next (n := 4) (byt_next (n := 7) hc), byt_next (n := 4) (byt_next (n := 7) b1)]
  rfl
def m_formats : List AV → Sto → Option (Bool × AV × Upd × Nat)
  | [.ptr 0 0 1], [(0, .fix (.cells [.vi .u8 l]))] => some (M.byt l, .tuple [.agg [.int .i64 (M.fk l), .int .i64 (M.fr l), .vi .i64 (M.fm l)], .agg [.int .i64 (M.fk (M.fl l)), .int .i64 (M.fr (M.fl l)), .vi .i64 (M.fm (M.fl l))]], [(0, .fix (.cells [.vi .u8 (M.fl (M.fl l))]))], 1)
  | _, _ => none
noncomputable def y16 : Cfg := y15.addR 9 m_formats
theorem y16_ok : CfgOK y16 := addR_ok y15_ok fun xs s v u nx h => by
  unfold m_formats at h; split at h
  · simp only [Option.some.injEq, Prod.mk.injEq] at h; obtain ⟨h1, rfl, rfl, rfl⟩ := h; exact callB_ok y15_ok noCall_ok 0 _ _ _ _ _ _ _ (e_formats _ h1)
  · cases h

end Go.Proofs.Ytooiechjanmdjaa
