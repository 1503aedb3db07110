/- The models of samples: encoding by the reference. -/
import Derived.Test.YtooiechjanmdjaaSmB
namespace Go.Proofs.Ytooiechjanmdjaa
open Am
set_option maxRecDepth 100000
set_option linter.unusedVariables false
set_option linter.unusedSimpArgs false

theorem okK_cases {k sz : Int} (h : M.okK k sz = true) : (k = 1 ∧ sz = 1) ∨ (k = 2 ∧ sz = 2) ∨ (k = 3 ∧ sz = 2) ∨ (k = 4 ∧ sz = 3) ∨ (k = 5 ∧ sz = 3) ∨ (k = 6 ∧ sz = 4) ∨ (k = 7 ∧ sz = 4) := by
  unfold M.okK at h
  rw [Bool.and_eq_true] at h
  have h1 := of_decide_eq_true h.1
  have h2 := of_decide_eq_true h.2
  rcases kinds k with rfl | rfl | rfl | rfl | rfl | rfl | rfl | ⟨g1, g2, g3, g4, g5, g6, g7⟩
  · exact .inl ⟨rfl, h1.symm⟩
  · exact .inr (.inl ⟨rfl, h1.symm⟩)
  · exact .inr (.inr (.inl ⟨rfl, h1.symm⟩))
  · exact .inr (.inr (.inr (.inl ⟨rfl, h1.symm⟩)))
  · exact .inr (.inr (.inr (.inr (.inl ⟨rfl, h1.symm⟩))))
  · exact .inr (.inr (.inr (.inr (.inr (.inl ⟨rfl, h1.symm⟩)))))
  · exact .inr (.inr (.inr (.inr (.inr (.inr ⟨rfl, h1.symm⟩)))))
  · unfold M.fsz at h1; simp only [g1, g2, g3, g4, g5, g6, g7, cond_false] at h1; omega
theorem okK_okF {k sz : Int} (h : M.okK k sz = true) : M.okF sz (M.fbg k) = true := by
  rcases okK_cases h with ⟨rfl, rfl⟩ | ⟨rfl, rfl⟩ | ⟨rfl, rfl⟩ | ⟨rfl, rfl⟩ | ⟨rfl, rfl⟩ | ⟨rfl, rfl⟩ | ⟨rfl, rfl⟩ <;> rfl
def rS0 (e k sz : Int) (l : List Int) (n i : Int) : St := ⟨[(0, .int .i64 k), (4, .nilsl), (5, .int .i64 e), (6, .int .i64 sz), (7, .nilsl), (20, .vi .i32 l), (21, .int .i64 n), (22, .int .i64 i)], [], 0⟩
def rS1 (e k sz : Int) (l : List Int) (n i : Int) (a : List Int) : St := ⟨[(0, .int .i64 k), (4, .nilsl), (5, .int .i64 e), (6, .int .i64 sz), (7, .gsl 0 0), (20, .vi .i32 l), (21, .int .i64 n), (22, .int .i64 i)], [(0, .grow 1 0 (.ints .u8 a))], 1⟩

def rHead (e k sz : Int) (l : List Int) : Nat → St
  | 0 => rS0 e k sz l l.length 0
  | i + 1 => rS1 e k sz l l.length (i + 1 : Nat) ((l.take (i + 1)).flatMap (M.encS sz (M.fbg k)))
theorem rHead_pos (e k sz : Int) {l : List Int} {i : Nat} (h : 0 < i) : rHead e k sz l i = rS1 e k sz l l.length i ((l.take i).flatMap (M.encS sz (M.fbg k))) := by
  obtain ⟨j, rfl⟩ : ∃ j, i = j + 1 := ⟨i - 1, by omega⟩
  rfl

def l_rEnc : Nat → St → Option (List (Bool × Ex × St))
  | 0, ⟨[(0, .int .i64 k), (4, .nilsl), (5, .int .i64 0), (6, .int .i64 sz), (7, .nilsl), (20, .vi .i32 l), (21, .int .i64 n), (22, .int .i64 0)], [], 0⟩ => some [(M.okK k sz && M.okL l n && l.all M.smp && decide (0 < l.length), .exit 0, rS1 0 k sz l l.length l.length ((l.take l.length).flatMap (M.encS sz (M.fbg k)))), (M.okK k sz && M.okL l n && l.all M.smp, .exit 0, rS0 0 k sz l l.length 0), (M.okK k sz && M.okL l n && decide (0 < badAt l.length fun i => M.smp (l.getD i 0)), .ret, rS1 2 k sz l l.length (badAt l.length fun i => M.smp (l.getD i 0) : Nat) ((l.take (badAt l.length fun i => M.smp (l.getD i 0))).flatMap (M.encS sz (M.fbg k)))), (M.okK k sz && M.okL l n, .ret, rS0 2 k sz l l.length 0)]
  | _, _ => none
noncomputable def s12 : Cfg := s11

theorem s12_ok : CfgOK s12 := s11_ok

theorem renc_end (k : Int) (l : List Int) (sz : Int) (hk : M.okK k sz = true) :
    Ev (bif decide ((l.length : Int) > 524288) then some (.tuple [.nilsl, .int .i64 3], [], 0) else bif M.okK k sz && M.okL l l.length && l.all M.smp && decide (0 < l.length) then some (.tuple [.vi .u8 ((l.take l.length).flatMap (M.encS sz (M.fbg k))), .int .i64 0], [], 0) else bif M.okK k sz && M.okL l l.length && l.all M.smp then some (.tuple [.nilsl, .int .i64 0], [], 0) else bif M.okK k sz && M.okL l l.length && decide (0 < badAt l.length fun i => M.smp (l.getD i 0)) then some (.tuple [.nilsl, .int .i64 2], [], 0) else bif M.okK k sz && M.okL l l.length then some (.tuple [.nilsl, .int .i64 2], [], 0) else none) (.tuple [.vi .u8 (M.encL k l), .int .i64 (M.encE k l)]) := by
  have hfz : M.fsz k = sz := by unfold M.okK at hk; rw [Bool.and_eq_true] at hk; exact of_decide_eq_true hk.1
  have hz : (M.fsz k == 0) = false := by rw [hfz]; rcases okK_cases hk with ⟨_, rfl⟩ | ⟨_, rfl⟩ | ⟨_, rfl⟩ | ⟨_, rfl⟩ | ⟨_, rfl⟩ | ⟨_, rfl⟩ | ⟨_, rfl⟩ <;> rfl
  by_cases hl : (l.length : Int) > 524288
  · have hE : M.encE k l = 3 := by unfold M.encE; rw [hz, decide_eq_true hl]; rfl
    have hLL : M.encL k l = [] := by unfold M.encL; rw [hE]; rfl
    rw [hE, hLL, decide_eq_true hl]
    exact ⟨_, [], 0, rfl, rfl, .tuple (.cons (.leaf (.nil _)) (.refl _))⟩
  · have hl' : l.length ≤ 524288 := by omega
    have hL : M.okL l l.length = true := by simp [M.okL, hl']
    rw [decide_eq_false hl, hk, hL]
    cases ha : l.all M.smp with
    | true =>
      have hE : M.encE k l = 0 := by unfold M.encE; rw [hz, decide_eq_false hl, ha]; rfl
      have hLL : M.encL k l = l.flatMap (M.encS sz (M.fbg k)) := by unfold M.encL; rw [hE, hfz]; rfl
      rw [hE, hLL, List.take_length]
      by_cases h0 : 0 < l.length
      · rw [decide_eq_true h0]
        exact ⟨_, [], 0, rfl, rfl, .refl _⟩
      · have : l = [] := List.length_eq_zero_iff.1 (by omega)
        subst this
        exact ⟨_, [], 0, rfl, rfl, .tuple (.cons (.leaf (.nil _)) (.refl _))⟩
    | false =>
      have hE : M.encE k l = 2 := by unfold M.encE; rw [hz, decide_eq_false hl, ha]; rfl
      have hLL : M.encL k l = [] := by unfold M.encL; rw [hE]; rfl
      rw [hE, hLL]
      cases decide (0 < badAt l.length fun i => M.smp (l.getD i 0)) <;> exact ⟨_, [], 0, rfl, rfl, .tuple (.cons (.leaf (.nil _)) (.refl _))⟩

def m_rEncode : List AV → Option (Bool × AV)
  | [.int .i64 k, l_] => (asVi .i32 l_).bind fun l => some (true, .tuple [.vi .u8 (M.encL k l), .int .i64 (M.encE k l)])
  | _ => none
noncomputable def s13 : Cfg := s12

theorem s13_ok : CfgOK s13 := s12_ok

end Go.Proofs.Ytooiechjanmdjaa
