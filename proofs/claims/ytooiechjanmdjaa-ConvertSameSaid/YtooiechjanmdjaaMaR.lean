/- Matrices: what the laws without the reference use: models for maps and blocks that fit; changes of order. -/
import Derived.Test.YtooiechjanmdjaaKt
namespace Go.Proofs.Ytooiechjanmdjaa
open Am
set_option maxRecDepth 100000
set_option linter.unusedVariables false
set_option linter.unusedSimpArgs false
set_option maxHeartbeats 4000000

namespace M
def okD2 (a b : List Int) : Bool := mapV a && mapV b
def okA2 (n m : Int) (co : List Int) (c : Int) (l : List Int) : Bool := mtxV n m co && valid c l && decide (c = n) && decide (co.length < 4294967296) && decide (l.length < 4294967296)
end M

theorem dfl_simple {a b : List Int} (h : M.okD2 a b = true) : M.dflI a b = a.length ∧ M.dflO a b = b.length ∧ M.dfl a b = M.dflC a b a.length ∧ M.dflE a b = 0 := by
  unfold M.okD2 at h
  rw [Bool.and_eq_true] at h
  have e : M.dflE a b = 0 := by unfold M.dflE; rw [h.1, h.2]; rfl
  refine ⟨?_, ?_, ?_, e⟩
  · unfold M.dflI; rw [e]; rfl
  · unfold M.dflO; rw [e]; rfl
  · unfold M.dfl; rw [e]; rfl
def m_D2 : List AV → Option (Bool × AV)
  | [a_, b_] => (asVi .i64 a_).bind fun a => (asVi .i64 b_).bind fun b => some (M.okD2 a b, .tuple [.agg [.int .i64 a.length, .int .i64 b.length, .vi .i64 (M.dflC a b a.length)], .int .i64 0])
  | _ => none
noncomputable def o1 : Cfg := g7.add 27 m_D2
theorem o1_ok : CfgOK o1 := add_ok g7_ok fun xs v h => by
  unfold m_D2 at h; split at h
  · obtain ⟨a, h_a, h⟩ := Option.bind_eq_some_iff.1 h
    obtain ⟨b, h_b, h⟩ := Option.bind_eq_some_iff.1 h
    simp only [Option.some.injEq, Prod.mk.injEq] at h; obtain ⟨h1, rfl⟩ := h
    obtain ⟨e1, e2, e3, e4⟩ := dfl_simple h1
    unfold M.okD2 at h1
    rw [Bool.and_eq_true] at h1
    have la := (mapV_iff h1.1).2.1
    have lb := (mapV_iff h1.2).2.1
    have := p_Default a b (by rw [decide_eq_true (by omega : a.length < 4294967296), decide_eq_true (by omega : b.length < 4294967296)]; rfl)
    rw [e1, e2, e3, e4] at this
    exact PureOK.weak this (.cons (.leaf (asVi_le h_a)) (.cons (.leaf (asVi_le h_b)) (.refl _))) (Le2.refl _)
  · cases h
theorem ap_simple {n m : Int} {co : List Int} {c : Int} {l : List Int} (h : M.okA2 n m co c l = true) : M.apE n m co c l = 0 ∧ M.apO n m co c l = m ∧ M.apR n m co c l = M.apD n m co l (l.length / n.toNat) := by
  unfold M.okA2 at h
  simp only [Bool.and_eq_true, decide_eq_true_eq] at h
  have e : M.apE n m co c l = 0 := by
    unfold M.apE; rw [h.1.1.1.1, h.1.1.1.2, show (c != n) = false by simp [h.1.1.2]]; rfl
  refine ⟨e, ?_, ?_⟩
  · unfold M.apO; rw [e]; rfl
  · unfold M.apR; rw [e]; rfl
def m_A2 : List AV → Option (Bool × AV)
  | [.agg [.int .i64 n, .int .i64 m, co_], .agg [.int .i64 c, l_]] => (asVi .i64 co_).bind fun co => (asVi .i32 l_).bind fun l => some (M.okA2 n m co c l, .tuple [.agg [.int .i64 m, .vi .i32 (M.apD n m co l (l.length / n.toNat))], .int .i64 0])
  | _ => none
noncomputable def o2 : Cfg := o1.add 73 m_A2
theorem o2_ok : CfgOK o2 := add_ok o1_ok fun xs v h => by
  unfold m_A2 at h; split at h
  · rename_i n m co_ c l_
    obtain ⟨co, h_co, h⟩ := Option.bind_eq_some_iff.1 h
    obtain ⟨l, h_l, h⟩ := Option.bind_eq_some_iff.1 h
    simp only [Option.some.injEq, Prod.mk.injEq] at h; obtain ⟨h1, rfl⟩ := h
    obtain ⟨e1, e2, e3⟩ := ap_simple h1
    have h2 := h1
    unfold M.okA2 at h2
    simp only [Bool.and_eq_true] at h2
    have := e_Apply n m co c l (by rw [h2.1.2, h2.2]; rfl)
    rw [e1, e2, e3] at this
    exact Ev.pure c3_ok noCall_ok this (.cons (.agg (.cons (.refl _) (.cons (.refl _) (.cons (asVi_le h_co) (.refl _))))) (.cons (.agg (.cons (.refl _) (.cons (asVi_le h_l) (.refl _)))) (.refl _)))
  · cases h

namespace M
def permB (n m : Nat) (co : List Int) (s : Nat → Nat) : Bool := allN m fun r => Nat.blt (s r) n && allN n fun c => co.getD (r * n + c) 0 == bif Nat.beq c (s r) then 32768 else 0
/-- where position q of map b stands in map a -/
def at_ (a b : List Int) (r : Nat) : Nat := (idx a (b.getD r 0)).toNat
end M
theorem permB_ok {n m : Nat} {co : List Int} {s : Nat → Nat} (h : M.permB n m co s = true) : M.Perm n m co s := by
  intro r hr
  have := allN_iff.1 h r hr
  rw [Bool.and_eq_true] at this
  refine ⟨by have := this.1; unfold Nat.blt at this; exact Nat.le_of_ble_eq_true this, fun c hc => ?_⟩
  have h2 := allN_iff.1 this.2 c hc
  rw [beq_iff_eq] at h2
  rw [h2]
  cases hb : Nat.beq c (s r) with
  | true => rw [if_pos (Nat.eq_of_beq_eq_true hb)]; rfl
  | false => rw [if_neg (fun he => by rw [he, Nat.beq_refl] at hb; cases hb)]; rfl

end Go.Proofs.Ytooiechjanmdjaa
