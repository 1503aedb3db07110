/- The models of the phase's functions. -/
import Derived.Test.YtcpidomblalmpaaAmUse
import Derived.Test.YtcpidomblalmpaaProg
namespace Go.Proofs.Ytcpidomblalmpaa
open Am
namespace M
/-- Euclid's loop -/
def gcdT (a b : Int) : Int := if h : b = 0 then a else gcdT b (a.tmod b)
termination_by b.natAbs
decreasing_by
  simp only [Int.natAbs_tmod]
  exact Nat.mod_lt _ (Int.natAbs_pos.2 h)
def w64 (n : Int) : Int := IntKind.i64.wrap n
def parts (den : Int) : Int := w64 (den * 65536)
def step (num adj : Int) : Int := w64 (num * w64 (65536 + adj))
def ahead (num adj frac n : Int) : Int := w64 (frac + w64 (w64 (n * num) * w64 (65536 + adj)))
def tuned (adj : Int) : Bool := decide (adj ≥ -4096) && decide (adj ≤ 4096)
def ratioValid (num den : Int) : Bool := decide (num ≥ 1) && decide (den ≥ 1) && decide (num ≤ 68719476736) && decide (den ≤ 68719476736) && (gcdT num den == 1)
def valid (num den adj pos frac : Int) : Bool := ratioValid num den && decide (num ≤ 768000) && decide (den ≤ 768000) && tuned adj && decide (pos ≥ 0) && decide (pos ≤ 1125899906842624) && decide (frac ≥ 0) && decide (frac < parts den)
def nextV (n : Int) (l : List Int) : Int := bif !((l.length : Int) == 0) then (bif decide (n ≤ 1) then 0 else (IntKind.i64.wrap (l.getD 0 0)).tmod n) else 0
def nextL (n : Int) (l : List Int) : List Int := bif !((l.length : Int) == 0) then (bif decide (n ≤ 1) then l else l.drop 1) else l
end M
def keep : Nat → Nat → Option (List Nat)
  | 40, 0 => some [0, 1]
  | 41, 0 => some [0, 1]
  | 3, 0 => some [1, 4, 5, 6, 7, 8]
  | 36, 0 => some [1, 5, 6]
  | 24, 0 => some [1, 2, 4, 5, 6, 7]
  | _, _ => none
noncomputable def c0 : Cfg := base Try.prog keep
set_option maxRecDepth 100000
theorem c0_ok : CfgOK c0 := base_ok (noNum_of (by kernel_rfl))

/-- the state at the head of Euclid's loop -/
def eSt (a b : Int) (lo : Nat) : St := ⟨[(0, .int .i64 a), (1, .int .i64 b)], [], lo⟩

theorem gcd_step (f : Nat) (hf : f = 40 ∨ f = 41) {R : Type} (a b : Int) (K : Kont R) : execK c0 f 0 (ntAt Try.prog f) noCall 0 none (bodyAt Try.prog f 0) (eSt a b 0) (kRes 0 (keep f 0) K) =
    (bif b != 0 then (bif b != 0 && true then K .normal (eSt b (a.tmod b) 0) else none) else K (.exit 0) (eSt a b 0)) := by
  rcases hf with rfl | rfl <;> kernel_rfl

theorem gcd_loop (f : Nat) (hf : f = 40 ∨ f = 41) {R : Type} (K : Kont R) : ∀ (a b : Int),
    ∃ n, loopK 0 (keep f 0) (execK c0 f 0 (ntAt Try.prog f) noCall 0 none (bodyAt Try.prog f 0)) n (eSt a b 0) K = K (.exit 0) (eSt (M.gcdT a b) 0 0) := by
  intro a b
  induction a, b using M.gcdT.induct with
  | case1 a =>
    refine ⟨1, ?_⟩
    rw [loopK_step, gcd_step f hf, M.gcdT]
    rfl
  | case2 a b hb ih =>
    obtain ⟨n, hn⟩ := ih
    refine ⟨n + 1, ?_⟩
    rw [loopK_step, gcd_step f hf, M.gcdT, dif_neg hb]
    have h0 : (b != 0) = true := by simpa using hb
    rw [h0]
    exact hn

def eL : Nat → St → Option (Bool × Ex × St)
  | 0, ⟨[(0, .int .i64 a), (1, .int .i64 b)], [], 0⟩ => some (true, .exit 0, eSt (M.gcdT a b) 0 0)
  | _, _ => none

noncomputable def c1 : Cfg := (c0.addL 40 0 eL).addL 41 0 eL

theorem eL_ok (f : Nat) (hf : f = 40 ∨ f = 41) (lo : Nat) (st : St) (ex : Ex) (st' : St) (h : eL lo st = some (true, ex, st')) : ∃ (C' : Cfg) (call : CallF) (m n : Nat) (kp : Option (List Nat)), CfgOK C' ∧ CallOK C'.P call ∧ C'.P = c0.P ∧
      loopK lo kp (execK C' f lo (ntAt c0.P f) call m none (bodyAt c0.P f 0)) n st (fun ex st => some (ex, st)) = some (ex, st') := by
  unfold eL at h
  split at h
  · rename_i a b
    simp only [Option.some.injEq, Prod.mk.injEq, true_and] at h
    obtain ⟨rfl, rfl⟩ := h
    obtain ⟨n, hn⟩ := gcd_loop f hf (fun ex st => some (ex, st)) a b
    exact ⟨c0, noCall, 0, n, keep f 0, c0_ok, noCall_ok, rfl, hn⟩
  · cases h

theorem c1_ok : CfgOK c1 :=
  addL_ok (addL_ok c0_ok (by kernel_rfl) (eL_ok 40 (.inl rfl))) (by kernel_rfl) (eL_ok 41 (.inr rfl))

end Go.Proofs.Ytcpidomblalmpaa
