/- The models of samples: kinds of encodings. -/
import Derived.Test.YtplcpdjabjjfiaaMkA
namespace Go.Proofs.Ytplcpdjabjjfiaa
open Am
set_option maxRecDepth 100000
set_option linter.unusedVariables false
set_option linter.unusedSimpArgs false

namespace M
/-- the bytes of a kind of encoding, and whether the most significant one comes first -/
def fsz (k : Int) : Int := bif k == 1 then 1 else bif k == 2 then 2 else bif k == 3 then 2 else bif k == 4 then 3 else bif k == 5 then 3 else bif k == 6 then 4 else bif k == 7 then 4 else 0
def fbg (k : Int) : Bool := k == 3 || k == 5 || k == 7
def smp (s : Int) : Bool := decide (s ≥ -8388608) && decide (s ≤ 8388607)
def sat (n : Int) : Int := w32 (bif true then (if (if n < 8388607 then n else 8388607) > -8388608 then (if n < 8388607 then n else 8388607) else -8388608) else 0)
end M
theorem kinds (k : Int) : k = 1 ∨ k = 2 ∨ k = 3 ∨ k = 4 ∨ k = 5 ∨ k = 6 ∨ k = 7 ∨ ((k == 1) = false ∧ (k == 2) = false ∧ (k == 3) = false ∧ (k == 4) = false ∧ (k == 5) = false ∧ (k == 6) = false ∧ (k == 7) = false) := by
  by_cases h1 : k = 1
  · exact .inl h1
  by_cases h2 : k = 2
  · exact .inr (.inl h2)
  by_cases h3 : k = 3
  · exact .inr (.inr (.inl h3))
  by_cases h4 : k = 4
  · exact .inr (.inr (.inr (.inl h4)))
  by_cases h5 : k = 5
  · exact .inr (.inr (.inr (.inr (.inl h5))))
  by_cases h6 : k = 6
  · exact .inr (.inr (.inr (.inr (.inr (.inl h6)))))
  by_cases h7 : k = 7
  · exact .inr (.inr (.inr (.inr (.inr (.inr (.inl h7))))))
  · simp [h1, h2, h3, h4, h5, h6, h7]

def m_find : List AV → Option (List (Bool × AV))
  | [.int .i64 k] => some [(k == 1, .agg [.int .i64 1, .bool false]), (k == 2, .agg [.int .i64 2, .bool false]), (k == 3, .agg [.int .i64 2, .bool true]), (k == 4, .agg [.int .i64 3, .bool false]), (k == 5, .agg [.int .i64 3, .bool true]), (k == 6, .agg [.int .i64 4, .bool false]), (k == 7, .agg [.int .i64 4, .bool true]), (true, .agg [.int .i64 0, .bool false])]
  | _ => none
noncomputable def s1 : Cfg := k5

theorem s1_ok : CfgOK s1 := k5_ok

def m_rSize : List AV → Option (List (Bool × AV))
  | [.int .i64 k] => some [(k == 1, .int .i64 1), (k == 2, .int .i64 2), (k == 3, .int .i64 2), (k == 4, .int .i64 3), (k == 5, .int .i64 3), (k == 6, .int .i64 4), (k == 7, .int .i64 4), (true, .int .i64 0)]
  | _ => none
noncomputable def s2 : Cfg := s1

theorem s2_ok : CfgOK s2 := s1_ok

theorem e_is (s : Int) : Ev (callB s2 noCall 0 51 [.int .i32 s] [] 0) (.bool (M.smp s)) := by
  rw [show callB s2 noCall 0 51 [.int .i32 s] [] 0 = (bif decide (s ≥ -8388608) then some (.bool (decide (s ≤ 8388607)), [], 0) else some (.bool false, [], 0)) by kernel_rfl]
  refine ⟨.bool (M.smp s), [], 0, ?_, rfl, .refl _⟩
  unfold M.smp
  cases decide (s ≥ -8388608) <;> rfl
def m_is : List AV → Option (Bool × AV)
  | [.int .i32 s] => some (true, .bool (M.smp s))
  | _ => none
noncomputable def s3 : Cfg := s2.add 51 m_is
theorem s3_ok : CfgOK s3 := add_ok s2_ok fun xs v h => by
  unfold m_is at h; split at h
  · simp only [Option.some.injEq, Prod.mk.injEq, true_and] at h; subst h
    exact Ev.pure s2_ok noCall_ok (e_is _) (.refl _)
  · cases h

theorem e_rsample (s : Int) : Ev (callB s3 noCall 0 52 [.int .i32 s] [] 0) (.bool (M.smp s)) := by
  rw [show callB s3 noCall 0 52 [.int .i32 s] [] 0 = (bif decide (s ≥ -8388608) then some (.bool (decide (s ≤ 8388607)), [], 0) else some (.bool false, [], 0)) by kernel_rfl]
  refine ⟨.bool (M.smp s), [], 0, ?_, rfl, .refl _⟩
  unfold M.smp
  cases decide (s ≥ -8388608) <;> rfl
def m_rsample : List AV → Option (Bool × AV)
  | [.int .i32 s] => some (true, .bool (M.smp s))
  | _ => none
noncomputable def s4 : Cfg := s3.add 52 m_rsample
theorem s4_ok : CfgOK s4 := add_ok s3_ok fun xs v h => by
  unfold m_rsample at h; split at h
  · simp only [Option.some.injEq, Prod.mk.injEq, true_and] at h; subst h
    exact Ev.pure s3_ok noCall_ok (e_rsample _) (.refl _)
  · cases h

theorem e_Sat (n : Int) : Ev (callB s4 noCall 0 35 [.int .i64 n] [] 0) (.int .i32 (M.sat n)) := by
  exact ⟨_, [], 0, by kernel_rfl, rfl, .refl _⟩
def m_Sat : List AV → Option (Bool × AV)
  | [.int .i64 n] => some (true, .int .i32 (M.sat n))
  | _ => none
noncomputable def s5 : Cfg := s4.add 35 m_Sat
theorem s5_ok : CfgOK s5 := add_ok s4_ok fun xs v h => by
  unfold m_Sat at h; split at h
  · simp only [Option.some.injEq, Prod.mk.injEq, true_and] at h; subst h
    exact Ev.pure s4_ok noCall_ok (e_Sat _) (.refl _)
  · cases h

theorem e_rSat (n : Int) : Ev (callB s5 noCall 0 37 [.int .i64 n] [] 0) (.int .i32 (M.sat n)) := by
  exact ⟨_, [], 0, by kernel_rfl, rfl, .refl _⟩
def m_rSat : List AV → Option (Bool × AV)
  | [.int .i64 n] => some (true, .int .i32 (M.sat n))
  | _ => none
noncomputable def s6 : Cfg := s5.add 37 m_rSat
theorem s6_ok : CfgOK s6 := add_ok s5_ok fun xs v h => by
  unfold m_rSat at h; split at h
  · simp only [Option.some.injEq, Prod.mk.injEq, true_and] at h; subst h
    exact Ev.pure s5_ok noCall_ok (e_rSat _) (.refl _)
  · cases h

namespace M
/-- a kind's size and order of bytes -/
def okF (sz : Int) (bg : Bool) : Bool := (sz == 1 && !bg) || sz == 2 || sz == 3 || sz == 4
/-- the bytes of an integer -/
def wr (sz : Int) (bg : Bool) (n : Int) : List Int := (List.range sz.toNat).map fun i => w8 (n.fdiv (2 ^ (8 * (bif bg then sz.toNat - 1 - i else i))))
/-- the integer that is written for a sample -/
def num (sz s : Int) : Int :=
  bif sz == 1 then (if w64 (128 + (w64 (w64 s + 32768)).fdiv 65536) < 255 then w64 (128 + (w64 (w64 s + 32768)).fdiv 65536) else 255)
  else bif sz == 2 then (if (w64 (w64 s + 128)).fdiv 256 < 32767 then (w64 (w64 s + 128)).fdiv 256 else 32767)
  else bif sz == 4 then w64 (w64 s * 256) else w64 s
def okW (a : List Int) : Bool := Nat.ble (a.length + 4) 4294967296
def orU (l : List Int) : Int := l.foldl (fun n b => orI .i64 (w64 (n * 256)) (w64 b)) 0
def uns (l : List Int) : Int := l.foldl (fun n b => n * 256 + b) 0
/-- the integer of bytes -/
def rd (sz : Int) (bg : Bool) (l : List Int) : Int :=
  bif decide (sz > 1) && decide (uns (bif bg then l else l.reverse) ≥ 2 ^ (8 * sz.toNat - 1)) then uns (bif bg then l else l.reverse) - 2 ^ (8 * sz.toNat) else uns (bif bg then l else l.reverse)
def rint (bg : Bool) (l : List Int) : Int :=
  bif decide (uns (bif bg then l else l.reverse) ≥ 2 ^ (8 * l.length - 1)) then uns (bif bg then l else l.reverse) - 2 ^ (8 * l.length) else uns (bif bg then l else l.reverse)
/-- the sample of bytes -/
def decS (sz : Int) (bg : Bool) (l : List Int) : Int :=
  sat (bif sz == 1 then w64 (w64 (rd sz bg l - 128) * 65536) else bif sz == 2 then w64 (rd sz bg l * 256) else bif sz == 4 then (w64 (rd sz bg l + 128)).fdiv 256 else rd sz bg l)
def okR (sz : Int) (bg : Bool) (l : List Int) : Bool := okF sz bg && decide ((l.length : Int) = sz) && byt l
end M
theorem okF_cases {sz : Int} {bg : Bool} (h : M.okF sz bg = true) : (sz = 1 ∧ bg = false) ∨ (sz = 2 ∧ bg = false) ∨ (sz = 2 ∧ bg = true) ∨ (sz = 3 ∧ bg = false) ∨ (sz = 3 ∧ bg = true) ∨ (sz = 4 ∧ bg = false) ∨ (sz = 4 ∧ bg = true) := by
  unfold M.okF at h
  cases bg <;> simp at h ⊢ <;> omega
theorem bleK {n k : Nat} (h : Nat.ble (n + 4) 4294967296 = true) (hk : k ≤ 4) : Nat.ble (n + k) 4294967296 = true :=
  Nat.ble_eq_true_of_le (by have := Nat.le_of_ble_eq_true h; omega)
theorem len_snoc (a : List Int) (x : Int) : (a ++ [x]).length = a.length + 1 := by simp

theorem wr_eq (a : List Int) (n : Int) : a ++ M.wr 1 false n = a ++ [M.w8 (n.fdiv 1)] ∧ a ++ M.wr 2 false n = a ++ [M.w8 (n.fdiv 1)] ++ [M.w8 (n.fdiv 256)] ∧ a ++ M.wr 2 true n = a ++ [M.w8 (n.fdiv 256)] ++ [M.w8 (n.fdiv 1)] ∧ a ++ M.wr 3 false n = a ++ [M.w8 (n.fdiv 1)] ++ [M.w8 (n.fdiv 256)] ++ [M.w8 (n.fdiv 65536)] ∧ a ++ M.wr 3 true n = a ++ [M.w8 (n.fdiv 65536)] ++ [M.w8 (n.fdiv 256)] ++ [M.w8 (n.fdiv 1)] ∧ a ++ M.wr 4 false n = a ++ [M.w8 (n.fdiv 1)] ++ [M.w8 (n.fdiv 256)] ++ [M.w8 (n.fdiv 65536)] ++ [M.w8 (n.fdiv 16777216)] ∧ a ++ M.wr 4 true n = a ++ [M.w8 (n.fdiv 16777216)] ++ [M.w8 (n.fdiv 65536)] ++ [M.w8 (n.fdiv 256)] ++ [M.w8 (n.fdiv 1)] := by
  have e1 : ∀ x y : Int, a ++ [x, y] = a ++ [x] ++ [y] := fun x y => by simp
  have e2 : ∀ x y z : Int, a ++ [x, y, z] = a ++ [x] ++ [y] ++ [z] := fun x y z => by simp
  have e3 : ∀ x y z u : Int, a ++ [x, y, z, u] = a ++ [x] ++ [y] ++ [z] ++ [u] := fun x y z u => by simp
  exact ⟨rfl, e1 _ _, e1 _ _, e2 _ _ _, e2 _ _ _, e3 _ _ _ _, e3 _ _ _ _⟩

def m_write : List AV → Sto → Option (Bool × AV × Upd × Nat)
  | [.agg [.int .i64 sz, .bool bg], .gsl 0 0, .int .i64 n], [(0, .grow 1 0 (.ints .u8 a))] => some ((M.okF sz bg && M.okW a), .gsl 0 sz.toNat, [(0, .grow 1 sz.toNat (.ints .u8 (a ++ M.wr sz bg n)))], 1)
  | _, _ => none
noncomputable def s7 : Cfg := s6

theorem s7_ok : CfgOK s7 := s6_ok

theorem or_byte {n b : Int} (h0 : 0 ≤ n) (h1 : n < 16777216) (hb0 : 0 ≤ b) (hb1 : b ≤ 255) : orI .i64 (M.w64 (n * 256)) (M.w64 b) = n * 256 + b := by
  obtain ⟨m, rfl⟩ := Int.eq_ofNat_of_zero_le h0
  obtain ⟨c, rfl⟩ := Int.eq_ofNat_of_zero_le hb0
  rw [w64_in (n := (m : Int) * 256) (by omega) (by omega), w64_in (n := (c : Int)) (by omega) (by omega)]
  unfold orI
  have hx : (BitVec.ofInt IntKind.i64.bits ((m : Int) * 256) ||| BitVec.ofInt IntKind.i64.bits (c : Int)).toNat = m * 256 + c := by
    have e : ((m : Int) * 256) = ((m * 256 : Nat) : Int) := by omega
    rw [e, BitVec.toNat_or]
    show (BitVec.ofInt 64 ((m * 256 : Nat) : Int)).toNat ||| (BitVec.ofInt 64 (c : Int)).toNat = _
    rw [BitVec.ofInt_natCast, BitVec.ofInt_natCast, BitVec.toNat_ofNat, BitVec.toNat_ofNat, Nat.mod_eq_of_lt (by omega), Nat.mod_eq_of_lt (by omega)]
    have := Nat.two_pow_add_eq_or_of_lt (i := 8) (b := c) (by omega) m
    rw [Nat.mul_comm m 256]
    exact this.symm
  rw [hx]
  have := w64_in (n := ((m * 256 + c : Nat) : Int)) (by omega) (by omega)
  unfold M.w64 at this
  rw [this]; omega
theorem orU_aux : ∀ (l : List Int) (n : Int) (k : Nat), 0 ≤ n → n < 256 ^ k → k + l.length ≤ 4 → M.byt l = true → l.foldl (fun n b => orI .i64 (M.w64 (n * 256)) (M.w64 b)) n = l.foldl (fun n b => n * 256 + b) n
  | [], _, _, _, _, _, _ => rfl
  | b :: l, n, k, h0, h1, h2, h3 => by
    simp only [M.byt, List.all_cons, Bool.and_eq_true, decide_eq_true_eq] at h3
    simp only [List.length_cons] at h2
    have hk : n < 16777216 := by
      have : k = 0 ∨ k = 1 ∨ k = 2 ∨ k = 3 := by omega
      rcases this with rfl | rfl | rfl | rfl <;> simp at h1 <;> omega
    simp only [List.foldl_cons]
    rw [or_byte h0 hk h3.1.1 h3.1.2]
    refine orU_aux l _ (k + 1) (by omega) ?_ (by omega) h3.2
    rw [Int.pow_succ]; omega
theorem orU_eq {l : List Int} (h : M.byt l = true) (hl : l.length ≤ 4) : M.orU l = M.uns l := orU_aux l 0 0 (by omega) (by decide) (by omega) h
theorem byt_reverse {l : List Int} (h : M.byt l = true) : M.byt l.reverse = true := by
  unfold M.byt at h ⊢; rw [List.all_reverse]; exact h
theorem uns_range : ∀ (l : List Int) (n : Int), M.byt l = true → 0 ≤ n → n * 256 ^ l.length ≤ l.foldl (fun n b => n * 256 + b) n ∧ l.foldl (fun n b => n * 256 + b) n < (n + 1) * 256 ^ l.length
  | [], n, _, h => by simp; omega
  | b :: l, n, h, h0 => by
    simp only [M.byt, List.all_cons, Bool.and_eq_true, decide_eq_true_eq] at h
    obtain ⟨a1, a2⟩ := uns_range l (n * 256 + b) h.2 (by omega)
    simp only [List.foldl_cons, List.length_cons, Int.pow_succ]
    have hp : (0 : Int) < 256 ^ l.length := Int.pow_pos (by omega)
    have e1 : n * (256 ^ l.length * 256) = n * 256 * 256 ^ l.length := by rw [Int.mul_comm (256 ^ l.length) 256, Int.mul_assoc]
    have e2 : (n + 1) * (256 ^ l.length * 256) = (n + 1) * 256 * 256 ^ l.length := by rw [Int.mul_comm (256 ^ l.length) 256, Int.mul_assoc]
    have m1 : n * 256 * 256 ^ l.length ≤ (n * 256 + b) * 256 ^ l.length := Int.mul_le_mul_of_nonneg_right (by omega) (by omega)
    have m2 : (n * 256 + b + 1) * 256 ^ l.length ≤ (n + 1) * 256 * 256 ^ l.length := Int.mul_le_mul_of_nonneg_right (by omega) (by omega)
    rw [e1, e2]; omega

theorem list1 {l : List Int} (h : (l.length : Int) = 1) : ∃ a, l = [a] := by
  match l, h with
  | [a], _ => exact ⟨a, rfl⟩
theorem list2 {l : List Int} (h : (l.length : Int) = 2) : ∃ a b, l = [a, b] := by
  obtain ⟨a, l', rfl⟩ := List.exists_cons_of_length_eq_add_one (n := 1) (l := l) (by omega)
  obtain ⟨b, rfl⟩ := list1 (l := l') (by simp at h; omega)
  exact ⟨a, b, rfl⟩
theorem list3 {l : List Int} (h : (l.length : Int) = 3) : ∃ a b c, l = [a, b, c] := by
  obtain ⟨a, l', rfl⟩ := List.exists_cons_of_length_eq_add_one (n := 2) (l := l) (by omega)
  obtain ⟨b, c, rfl⟩ := list2 (l := l') (by simp at h; omega)
  exact ⟨a, b, c, rfl⟩
theorem list4 {l : List Int} (h : (l.length : Int) = 4) : ∃ a b c d, l = [a, b, c, d] := by
  obtain ⟨a, l', rfl⟩ := List.exists_cons_of_length_eq_add_one (n := 3) (l := l) (by omega)
  obtain ⟨b, c, d, rfl⟩ := list3 (l := l') (by simp at h; omega)
  exact ⟨a, b, c, d, rfl⟩

def m_read : List AV → Option (Bool × AV)
  | [.agg [.int .i64 sz, .bool bg], l_] => (asVi .u8 l_).bind fun l => some (M.okR sz bg l, .int .i64 (M.rd sz bg l))
  | _ => none
noncomputable def s8 : Cfg := s7

theorem s8_ok : CfgOK s8 := s7_ok

end Go.Proofs.Ytplcpdjabjjfiaa
