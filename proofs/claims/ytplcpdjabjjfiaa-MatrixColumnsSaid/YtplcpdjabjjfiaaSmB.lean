/- The models of samples: encoding. -/
import Derived.Test.YtplcpdjabjjfiaaSmA
namespace Go.Proofs.Ytplcpdjabjjfiaa
open Am
set_option maxRecDepth 100000
set_option linter.unusedVariables false
set_option linter.unusedSimpArgs false

namespace M
def okRI (bg : Bool) (l : List Int) : Bool := okF l.length bg && byt l
end M

def m_integer : List AV → Option (Bool × AV)
  | [l_, .bool bg] => (asVi .u8 l_).bind fun l => some (M.okRI bg l, .int .i64 (M.rint bg l))
  | _ => none
noncomputable def s9 : Cfg := s8

theorem s9_ok : CfgOK s9 := s8_ok

namespace M
def encS (sz : Int) (bg : Bool) (s : Int) : List Int := wr sz bg (num sz s)
def okL (l : List Int) (n : Int) : Bool := decide ((l.length : Int) = n) && decide (l.length ≤ 524288)
def okK (k sz : Int) : Bool := decide (fsz k = sz) && decide (1 ≤ sz)
def encE (k : Int) (l : List Int) : Int := bif fsz k == 0 then 1 else bif decide ((l.length : Int) > 524288) then 3 else bif l.all smp then 0 else 2
def encL (k : Int) (l : List Int) : List Int := bif encE k l == 0 then l.flatMap (encS (fsz k) (fbg k)) else []
end M
theorem wr_len (sz : Int) (bg : Bool) (n : Int) : (M.wr sz bg n).length = sz.toNat := by simp [M.wr]
theorem enc_len (sz : Int) (bg : Bool) : ∀ (l : List Int), (l.flatMap (M.encS sz bg)).length = l.length * sz.toNat
  | [] => by simp
  | x :: l => by
    rw [List.flatMap_cons, List.length_append, enc_len sz bg l, List.length_cons, Nat.succ_mul]
    unfold M.encS
    rw [wr_len]; omega
theorem take_snoc {l : List Int} {i : Nat} (h : i < l.length) : l.take (i + 1) = l.take i ++ [l.getD i 0] := by
  rw [List.take_add_one, List.getElem?_eq_getElem h, List.getD_eq_getElem?_getD, List.getElem?_eq_getElem h]; rfl
theorem enc_snoc (sz : Int) (bg : Bool) {l : List Int} {i : Nat} (h : i < l.length) : (l.take (i + 1)).flatMap (M.encS sz bg) = (l.take i).flatMap (M.encS sz bg) ++ M.wr sz bg (M.num sz (l.getD i 0)) := by
  rw [take_snoc h, List.flatMap_append]; simp [M.encS]
theorem enc_okW {sz : Int} {bg : Bool} (hf : M.okF sz bg = true) {l : List Int} (hl : l.length ≤ 524288) (i : Nat) : M.okW ((l.take i).flatMap (M.encS sz bg)) = true := by
  unfold M.okW
  refine Nat.ble_eq_true_of_le ?_
  rw [enc_len]
  have h1 : (l.take i).length ≤ 524288 := by rw [List.length_take]; omega
  have h2 : sz.toNat ≤ 4 := by rcases okF_cases hf with ⟨rfl, _⟩ | ⟨rfl, _⟩ | ⟨rfl, _⟩ | ⟨rfl, _⟩ | ⟨rfl, _⟩ | ⟨rfl, _⟩ | ⟨rfl, _⟩ <;> decide
  have := Nat.mul_le_mul h1 h2
  omega
def eS (e : Int) (sz : Int) (bg : Bool) (l : List Int) (n i : Int) (a : List Int) : St := ⟨[(4, .nilsl), (5, .int .i64 e), (6, .ptr 0 0 2), (7, .gsl 1 0), (27, .vi .i32 l), (28, .int .i64 n), (29, .int .i64 i)], [(1, .grow 1 0 (.ints .u8 a)), (0, .fix (.cells [.int .i64 sz, .bool bg]))], 2⟩
def eHead (e : Int) (sz : Int) (bg : Bool) (l : List Int) (i : Nat) : St := eS e sz bg l l.length i ((l.take i).flatMap (M.encS sz bg))
def l_Enc : Nat → St → Option (List (Bool × Ex × St))
  | 0, ⟨[(4, .nilsl), (5, .int .i64 0), (6, .ptr 0 0 2), (7, .gsl 1 0), (27, .vi .i32 l), (28, .int .i64 n), (29, .int .i64 0)], [(1, .grow 1 0 (.ints .u8 [])), (0, .fix (.cells [.int .i64 sz, .bool bg]))], 2⟩ => some [(M.okF sz bg && M.okL l n && l.all M.smp, .exit 1, eHead 0 sz bg l l.length), (M.okF sz bg && M.okL l n, .ret, eHead 2 sz bg l (badAt l.length fun i => M.smp (l.getD i 0)))]
  | _, _ => none
noncomputable def s10 : Cfg := s9

theorem s10_ok : CfgOK s10 := s9_ok

theorem enc_end (k : Int) (l : List Int) (sz : Int) (bg : Bool) (hf : M.okF sz bg = true) (hk : M.fsz k = sz) (hb : M.fbg k = bg) (c : Bool) (hc : l.length ≤ 524288 → c = true) (X : Option (AV × Upd × Nat)) :
    Ev (bif decide ((l.length : Int) > 524288) then some (.tuple [.nilsl, .int .i64 3], [], 0) else bif c then (bif M.okF sz bg && M.okL l l.length && l.all M.smp then some (.tuple [.vi .u8 ((l.take l.length).flatMap (M.encS sz bg)), .int .i64 0], [], 0) else bif M.okF sz bg && M.okL l l.length then some (.tuple [.nilsl, .int .i64 2], [], 0) else X) else X)
      (.tuple [.vi .u8 (M.encL k l), .int .i64 (M.encE k l)]) := by
  have hz : (M.fsz k == 0) = false := by rw [hk]; rcases okF_cases hf with ⟨rfl, _⟩ | ⟨rfl, _⟩ | ⟨rfl, _⟩ | ⟨rfl, _⟩ | ⟨rfl, _⟩ | ⟨rfl, _⟩ | ⟨rfl, _⟩ <;> rfl
  by_cases hl : (l.length : Int) > 524288
  · have hE : M.encE k l = 3 := by unfold M.encE; rw [hz, decide_eq_true hl]; rfl
    have hLL : M.encL k l = [] := by unfold M.encL; rw [hE]; rfl
    rw [hE, hLL, decide_eq_true hl]
    exact ⟨_, [], 0, rfl, rfl, .tuple (.cons (.leaf (.nil _)) (.refl _))⟩
  · have hl' : l.length ≤ 524288 := by omega
    have hL : M.okL l l.length = true := by simp [M.okL, hl']
    rw [decide_eq_false hl, hc hl', hf, hL]
    cases ha : l.all M.smp with
    | true =>
      have hE : M.encE k l = 0 := by unfold M.encE; rw [hz, decide_eq_false hl, ha]; rfl
      have hLL : M.encL k l = l.flatMap (M.encS sz bg) := by unfold M.encL; rw [hE, hk, hb]; rfl
      rw [hE, hLL, List.take_length]
      exact ⟨_, [], 0, rfl, rfl, .refl _⟩
    | false =>
      have hE : M.encE k l = 2 := by unfold M.encE; rw [hz, decide_eq_false hl, ha]; rfl
      have hLL : M.encL k l = [] := by unfold M.encL; rw [hE]; rfl
      rw [hE, hLL]
      exact ⟨_, [], 0, rfl, rfl, .tuple (.cons (.leaf (.nil _)) (.refl _))⟩

def m_Encode : List AV → Option (Bool × AV)
  | [.int .i64 k, l_] => (asVi .i32 l_).bind fun l => some (true, .tuple [.vi .u8 (M.encL k l), .int .i64 (M.encE k l)])
  | _ => none
noncomputable def s11 : Cfg := s10

theorem s11_ok : CfgOK s11 := s10_ok

end Go.Proofs.Ytplcpdjabjjfiaa
