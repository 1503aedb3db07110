/- The models of samples: kinds of encodings. -/
import Derived.Test.YtooiechjanmdjaaMkA
namespace Go.Proofs.Ytooiechjanmdjaa
open Am
set_option maxRecDepth 100000
set_option linter.unusedVariables false
set_option linter.unusedSimpArgs false

namespace M
/-- the bytes of a kind of encoding, and whether the most significant one comes first -/
def fsz (k : Int) : Int := bif k == 1 then 1 else bif k == 2 then 2 else bif k == 3 then 2 else bif k == 4 then 3 else bif k == 5 then 3 else bif k == 6 then 4 else bif k == 7 then 4 else 0
def fbg (k : Int) : Bool := k == 3 || k == 5 || k == 7
def smp (s : Int) : Bool := decide (s ≥ -8388608) && decide (s ≤ 8388607)
def sat (n : Int) : Int := w32 (bif true then (if (if n < 8388607 then n else 8388607) > -8388608 then (if n < 8388607 then n else 8388607) else -8388608) else 0)
end M
theorem kinds (k : Int) : k = 1 ∨ k = 2 ∨ k = 3 ∨ k = 4 ∨ k = 5 ∨ k = 6 ∨ k = 7 ∨ ((k == 1) = false ∧ (k == 2) = false ∧ (k == 3) = false ∧ (k == 4) = false ∧ (k == 5) = false ∧ (k == 6) = false ∧ (k == 7) = false) := by
  by_cases h1 : k = 1
  · exact .inl h1
  by_cases h2 : k = 2
  · exact .inr (.inl h2)
  by_cases h3 : k = 3
  · exact .inr (.inr (.inl h3))
  by_cases h4 : k = 4
  · exact .inr (.inr (.inr (.inl h4)))
  by_cases h5 : k = 5
  · exact .inr (.inr (.inr (.inr (.inl h5))))
  by_cases h6 : k = 6
  · exact .inr (.inr (.inr (.inr (.inr (.inl h6)))))
  by_cases h7 : k = 7
  · exact .inr (.inr (.inr (.inr (.inr (.inr (.inl h7))))))
  · simp [h1, h2, h3, h4, h5, h6, h7]

theorem e_find (k : Int) : callB k5 noCall 20 70 [.int .i64 k] [] 0 = (bif 1 == k then some (AV.agg [.int .i64 1, .bool false], [], 0) else bif 2 == k then some (AV.agg [.int .i64 2, .bool false], [], 0) else bif 3 == k then some (AV.agg [.int .i64 2, .bool true], [], 0) else bif 4 == k then some (AV.agg [.int .i64 3, .bool false], [], 0) else bif 5 == k then some (AV.agg [.int .i64 3, .bool true], [], 0) else bif 6 == k then some (AV.agg [.int .i64 4, .bool false], [], 0) else bif 7 == k then some (AV.agg [.int .i64 4, .bool true], [], 0) else some (AV.agg [.int .i64 0, .bool false], [], 0)) := by kernel_rfl

def m_find : List AV → Option (List (Bool × AV))
  | [.int .i64 k] => some [(k == 1, .agg [.int .i64 1, .bool false]), (k == 2, .agg [.int .i64 2, .bool false]), (k == 3, .agg [.int .i64 2, .bool true]), (k == 4, .agg [.int .i64 3, .bool false]), (k == 5, .agg [.int .i64 3, .bool true]), (k == 6, .agg [.int .i64 4, .bool false]), (k == 7, .agg [.int .i64 4, .bool true]), (true, .agg [.int .i64 0, .bool false])]
  | _ => none
noncomputable def s1 : Cfg := k5.addX 70 m_find
theorem s1_ok : CfgOK s1 := addX_ok k5_ok fun xs alts v h hp => by
  unfold m_find at h; split at h
  · simp only [Option.some.injEq] at h; subst h
    rename_i k
    rcases kinds k with rfl | rfl | rfl | rfl | rfl | rfl | rfl | ⟨h1, h2, h3, h4, h5, h6, h7⟩
    · cases hp; exact pure_of_callB (m := 20) k5_ok noCall_ok (u := []) (nx := 0) (by kernel_rfl) rfl
    · cases hp; exact pure_of_callB (m := 20) k5_ok noCall_ok (u := []) (nx := 0) (by kernel_rfl) rfl
    · cases hp; exact pure_of_callB (m := 20) k5_ok noCall_ok (u := []) (nx := 0) (by kernel_rfl) rfl
    · cases hp; exact pure_of_callB (m := 20) k5_ok noCall_ok (u := []) (nx := 0) (by kernel_rfl) rfl
    · cases hp; exact pure_of_callB (m := 20) k5_ok noCall_ok (u := []) (nx := 0) (by kernel_rfl) rfl
    · cases hp; exact pure_of_callB (m := 20) k5_ok noCall_ok (u := []) (nx := 0) (by kernel_rfl) rfl
    · cases hp; exact pure_of_callB (m := 20) k5_ok noCall_ok (u := []) (nx := 0) (by kernel_rfl) rfl
    · simp only [pickL, h1, h2, h3, h4, h5, h6, h7, cond_false, cond_true, Option.some.injEq] at hp
      subst hp
      refine pure_of_callB (m := 20) k5_ok noCall_ok (u := []) (nx := 0) ?_ rfl
      rw [e_find]
      have g1 : (1 == k) = false := by rw [BEq.comm]; exact h1
      have g2 : (2 == k) = false := by rw [BEq.comm]; exact h2
      have g3 : (3 == k) = false := by rw [BEq.comm]; exact h3
      have g4 : (4 == k) = false := by rw [BEq.comm]; exact h4
      have g5 : (5 == k) = false := by rw [BEq.comm]; exact h5
      have g6 : (6 == k) = false := by rw [BEq.comm]; exact h6
      have g7 : (7 == k) = false := by rw [BEq.comm]; exact h7
      simp only [h1, h2, h3, h4, h5, h6, h7, g1, g2, g3, g4, g5, g6, g7, cond_false]
  · cases h

theorem e_rSize (k : Int) : callB s1 noCall 20 41 [.int .i64 k] [] 0 = (bif k == 1 then some (AV.int .i64 1, [], 0) else bif k == 2 then some (AV.int .i64 2, [], 0) else bif k == 3 then some (AV.int .i64 2, [], 0) else bif k == 4 then some (AV.int .i64 3, [], 0) else bif k == 5 then some (AV.int .i64 3, [], 0) else bif k == 6 then some (AV.int .i64 4, [], 0) else bif k == 7 then some (AV.int .i64 4, [], 0) else some (AV.int .i64 0, [], 0)) := by kernel_rfl

def m_rSize : List AV → Option (List (Bool × AV))
  | [.int .i64 k] => some [(k == 1, .int .i64 1), (k == 2, .int .i64 2), (k == 3, .int .i64 2), (k == 4, .int .i64 3), (k == 5, .int .i64 3), (k == 6, .int .i64 4), (k == 7, .int .i64 4), (true, .int .i64 0)]
  | _ => none
noncomputable def s2 : Cfg := s1.addX 41 m_rSize
theorem s2_ok : CfgOK s2 := addX_ok s1_ok fun xs alts v h hp => by
  unfold m_rSize at h; split at h
  · simp only [Option.some.injEq] at h; subst h
    rename_i k
    rcases kinds k with rfl | rfl | rfl | rfl | rfl | rfl | rfl | ⟨h1, h2, h3, h4, h5, h6, h7⟩
    · cases hp; exact pure_of_callB (m := 20) s1_ok noCall_ok (u := []) (nx := 0) (by kernel_rfl) rfl
    · cases hp; exact pure_of_callB (m := 20) s1_ok noCall_ok (u := []) (nx := 0) (by kernel_rfl) rfl
    · cases hp; exact pure_of_callB (m := 20) s1_ok noCall_ok (u := []) (nx := 0) (by kernel_rfl) rfl
    · cases hp; exact pure_of_callB (m := 20) s1_ok noCall_ok (u := []) (nx := 0) (by kernel_rfl) rfl
    · cases hp; exact pure_of_callB (m := 20) s1_ok noCall_ok (u := []) (nx := 0) (by kernel_rfl) rfl
    · cases hp; exact pure_of_callB (m := 20) s1_ok noCall_ok (u := []) (nx := 0) (by kernel_rfl) rfl
    · cases hp; exact pure_of_callB (m := 20) s1_ok noCall_ok (u := []) (nx := 0) (by kernel_rfl) rfl
    · simp only [pickL, h1, h2, h3, h4, h5, h6, h7, cond_false, cond_true, Option.some.injEq] at hp
      subst hp
      refine pure_of_callB (m := 20) s1_ok noCall_ok (u := []) (nx := 0) ?_ rfl
      rw [e_rSize]
      have g1 : (1 == k) = false := by rw [BEq.comm]; exact h1
      have g2 : (2 == k) = false := by rw [BEq.comm]; exact h2
      have g3 : (3 == k) = false := by rw [BEq.comm]; exact h3
      have g4 : (4 == k) = false := by rw [BEq.comm]; exact h4
      have g5 : (5 == k) = false := by rw [BEq.comm]; exact h5
      have g6 : (6 == k) = false := by rw [BEq.comm]; exact h6
      have g7 : (7 == k) = false := by rw [BEq.comm]; exact h7
      simp only [h1, h2, h3, h4, h5, h6, h7, g1, g2, g3, g4, g5, g6, g7, cond_false]
  · cases h

theorem e_is (s : Int) : Ev (callB s2 noCall 0 77 [.int .i32 s] [] 0) (.bool (M.smp s)) := by
  rw [show callB s2 noCall 0 77 [.int .i32 s] [] 0 = (bif decide (s ≥ -8388608) then some (.bool (decide (s ≤ 8388607)), [], 0) else some (.bool false, [], 0)) by kernel_rfl]
  refine ⟨.bool (M.smp s), [], 0, ?_, rfl, .refl _⟩
  unfold M.smp
  cases decide (s ≥ -8388608) <;> rfl
def m_is : List AV → Option (Bool × AV)
  | [.int .i32 s] => some (true, .bool (M.smp s))
  | _ => none
noncomputable def s3 : Cfg := s2.add 77 m_is
theorem s3_ok : CfgOK s3 := add_ok s2_ok fun xs v h => by
  unfold m_is at h; split at h
  · simp only [Option.some.injEq, Prod.mk.injEq, true_and] at h; subst h
    exact Ev.pure s2_ok noCall_ok (e_is _) (.refl _)
  · cases h

theorem e_rsample (s : Int) : Ev (callB s3 noCall 0 85 [.int .i32 s] [] 0) (.bool (M.smp s)) := by
  rw [show callB s3 noCall 0 85 [.int .i32 s] [] 0 = (bif decide (s ≥ -8388608) then some (.bool (decide (s ≤ 8388607)), [], 0) else some (.bool false, [], 0)) by kernel_rfl]
  refine ⟨.bool (M.smp s), [], 0, ?_, rfl, .refl _⟩
  unfold M.smp
  cases decide (s ≥ -8388608) <;> rfl
def m_rsample : List AV → Option (Bool × AV)
  | [.int .i32 s] => some (true, .bool (M.smp s))
  | _ => none
noncomputable def s4 : Cfg := s3.add 85 m_rsample
theorem s4_ok : CfgOK s4 := add_ok s3_ok fun xs v h => by
  unfold m_rsample at h; split at h
  · simp only [Option.some.injEq, Prod.mk.injEq, true_and] at h; subst h
    exact Ev.pure s3_ok noCall_ok (e_rsample _) (.refl _)
  · cases h

theorem e_Sat (n : Int) : Ev (callB s4 noCall 0 87 [.int .i64 n] [] 0) (.int .i32 (M.sat n)) := by
  exact ⟨_, [], 0, by kernel_rfl, rfl, .refl _⟩
def m_Sat : List AV → Option (Bool × AV)
  | [.int .i64 n] => some (true, .int .i32 (M.sat n))
  | _ => none
noncomputable def s5 : Cfg := s4.add 87 m_Sat
theorem s5_ok : CfgOK s5 := add_ok s4_ok fun xs v h => by
  unfold m_Sat at h; split at h
  · simp only [Option.some.injEq, Prod.mk.injEq, true_and] at h; subst h
    exact Ev.pure s4_ok noCall_ok (e_Sat _) (.refl _)
  · cases h

def m_rSat : List AV → Option (Bool × AV)
  | [.int .i64 n] => some (true, .int .i32 (M.sat n))
  | _ => none
noncomputable def s6 : Cfg := s5

theorem s6_ok : CfgOK s6 := s5_ok

namespace M
/-- a kind's size and order of bytes -/
def okF (sz : Int) (bg : Bool) : Bool := (sz == 1 && !bg) || sz == 2 || sz == 3 || sz == 4
/-- the bytes of an integer -/
def wr (sz : Int) (bg : Bool) (n : Int) : List Int := (List.range sz.toNat).map fun i => w8 (n.fdiv (2 ^ (8 * (bif bg then sz.toNat - 1 - i else i))))
/-- the integer that is written for a sample -/
def num (sz s : Int) : Int :=
  bif sz == 1 then (if w64 (128 + (w64 (w64 s + 32768)).fdiv 65536) < 255 then w64 (128 + (w64 (w64 s + 32768)).fdiv 65536) else 255)
  else bif sz == 2 then (if (w64 (w64 s + 128)).fdiv 256 < 32767 then (w64 (w64 s + 128)).fdiv 256 else 32767)
  else bif sz == 4 then w64 (w64 s * 256) else w64 s
def okW (a : List Int) : Bool := Nat.ble (a.length + 4) 4294967296
def orU (l : List Int) : Int := l.foldl (fun n b => orI .i64 (w64 (n * 256)) (w64 b)) 0
def uns (l : List Int) : Int := l.foldl (fun n b => n * 256 + b) 0
/-- the integer of bytes -/
def rd (sz : Int) (bg : Bool) (l : List Int) : Int :=
  bif decide (sz > 1) && decide (uns (bif bg then l else l.reverse) ≥ 2 ^ (8 * sz.toNat - 1)) then uns (bif bg then l else l.reverse) - 2 ^ (8 * sz.toNat) else uns (bif bg then l else l.reverse)
def rint (bg : Bool) (l : List Int) : Int :=
  bif decide (uns (bif bg then l else l.reverse) ≥ 2 ^ (8 * l.length - 1)) then uns (bif bg then l else l.reverse) - 2 ^ (8 * l.length) else uns (bif bg then l else l.reverse)
/-- the sample of bytes -/
def decS (sz : Int) (bg : Bool) (l : List Int) : Int :=
  sat (bif sz == 1 then w64 (w64 (rd sz bg l - 128) * 65536) else bif sz == 2 then w64 (rd sz bg l * 256) else bif sz == 4 then (w64 (rd sz bg l + 128)).fdiv 256 else rd sz bg l)
def okR (sz : Int) (bg : Bool) (l : List Int) : Bool := okF sz bg && decide ((l.length : Int) = sz) && byt l
end M
theorem okF_cases {sz : Int} {bg : Bool} (h : M.okF sz bg = true) : (sz = 1 ∧ bg = false) ∨ (sz = 2 ∧ bg = false) ∨ (sz = 2 ∧ bg = true) ∨ (sz = 3 ∧ bg = false) ∨ (sz = 3 ∧ bg = true) ∨ (sz = 4 ∧ bg = false) ∨ (sz = 4 ∧ bg = true) := by
  unfold M.okF at h
  cases bg <;> simp at h ⊢ <;> omega
theorem bleK {n k : Nat} (h : Nat.ble (n + 4) 4294967296 = true) (hk : k ≤ 4) : Nat.ble (n + k) 4294967296 = true :=
  Nat.ble_eq_true_of_le (by have := Nat.le_of_ble_eq_true h; omega)
theorem len_snoc (a : List Int) (x : Int) : (a ++ [x]).length = a.length + 1 := by simp

theorem wr_eq (a : List Int) (n : Int) : a ++ M.wr 1 false n = a ++ [M.w8 (n.fdiv 1)] ∧ a ++ M.wr 2 false n = a ++ [M.w8 (n.fdiv 1)] ++ [M.w8 (n.fdiv 256)] ∧ a ++ M.wr 2 true n = a ++ [M.w8 (n.fdiv 256)] ++ [M.w8 (n.fdiv 1)] ∧ a ++ M.wr 3 false n = a ++ [M.w8 (n.fdiv 1)] ++ [M.w8 (n.fdiv 256)] ++ [M.w8 (n.fdiv 65536)] ∧ a ++ M.wr 3 true n = a ++ [M.w8 (n.fdiv 65536)] ++ [M.w8 (n.fdiv 256)] ++ [M.w8 (n.fdiv 1)] ∧ a ++ M.wr 4 false n = a ++ [M.w8 (n.fdiv 1)] ++ [M.w8 (n.fdiv 256)] ++ [M.w8 (n.fdiv 65536)] ++ [M.w8 (n.fdiv 16777216)] ∧ a ++ M.wr 4 true n = a ++ [M.w8 (n.fdiv 16777216)] ++ [M.w8 (n.fdiv 65536)] ++ [M.w8 (n.fdiv 256)] ++ [M.w8 (n.fdiv 1)] := by
  have e1 : ∀ x y : Int, a ++ [x, y] = a ++ [x] ++ [y] := fun x y => by simp
  have e2 : ∀ x y z : Int, a ++ [x, y, z] = a ++ [x] ++ [y] ++ [z] := fun x y z => by simp
  have e3 : ∀ x y z u : Int, a ++ [x, y, z, u] = a ++ [x] ++ [y] ++ [z] ++ [u] := fun x y z u => by simp
  exact ⟨rfl, e1 _ _, e1 _ _, e2 _ _ _, e2 _ _ _, e3 _ _ _ _, e3 _ _ _ _⟩

theorem e_write (sz : Int) (bg : Bool) (n : Int) (a : List Int) (hc : (M.okF sz bg && M.okW a) = true) : callB s6 noCall 10 78 [.agg [.int .i64 sz, .bool bg], .gsl 0 0, .int .i64 n] [(0, .grow 1 0 (.ints .u8 a))] 1 = some (.gsl 0 sz.toNat, [(0, .grow 1 sz.toNat (.ints .u8 (a ++ M.wr sz bg n)))], 1) := by
  rw [Bool.and_eq_true] at hc
  obtain ⟨hf, hc⟩ := hc
  have h1 : Nat.ble (a.length + 1) 4294967296 = true := bleK hc (by omega)
  have h2 : ∀ x : Int, Nat.ble ((a ++ [x]).length + 1) 4294967296 = true := fun x => by rw [len_snoc]; exact bleK (k := 2) hc (by omega)
  have h3 : ∀ x y : Int, Nat.ble ((a ++ [x] ++ [y]).length + 1) 4294967296 = true := fun x y => by rw [len_snoc, len_snoc]; exact bleK (k := 3) hc (by omega)
  have h4 : ∀ x y z : Int, Nat.ble ((a ++ [x] ++ [y] ++ [z]).length + 1) 4294967296 = true := fun x y z => by rw [len_snoc, len_snoc, len_snoc]; exact bleK (k := 4) hc (by omega)
  rcases okF_cases hf with ⟨rfl, rfl⟩ | ⟨rfl, rfl⟩ | ⟨rfl, rfl⟩ | ⟨rfl, rfl⟩ | ⟨rfl, rfl⟩ | ⟨rfl, rfl⟩ | ⟨rfl, rfl⟩
  · refine (show callB s6 noCall 10 78 [.agg [.int .i64 1, .bool false], .gsl 0 0, .int .i64 n] [(0, .grow 1 0 (.ints .u8 a))] 1 = (bif Nat.ble ((a).length + 1) 4294967296 && true then some (.gsl 0 1, [(0, .grow 1 1 (.ints .u8 (a ++ [M.w8 (n.fdiv 1)])))], 1) else none) by kernel_rfl).trans ?_
    rw [(wr_eq a n).1]
    simp only [h1, h2, h3, h4, Bool.and_true, cond_true]
    rfl
  · refine (show callB s6 noCall 10 78 [.agg [.int .i64 2, .bool false], .gsl 0 0, .int .i64 n] [(0, .grow 1 0 (.ints .u8 a))] 1 = (bif Nat.ble ((a).length + 1) 4294967296 && true then bif Nat.ble ((a ++ [M.w8 (n.fdiv 1)]).length + 1) 4294967296 && true then some (.gsl 0 2, [(0, .grow 1 2 (.ints .u8 (a ++ [M.w8 (n.fdiv 1)] ++ [M.w8 (n.fdiv 256)])))], 1) else none else none) by kernel_rfl).trans ?_
    rw [(wr_eq a n).2.1]
    simp only [h1, h2, h3, h4, Bool.and_true, cond_true]
    rfl
  · refine (show callB s6 noCall 10 78 [.agg [.int .i64 2, .bool true], .gsl 0 0, .int .i64 n] [(0, .grow 1 0 (.ints .u8 a))] 1 = (bif Nat.ble ((a).length + 1) 4294967296 && true then bif Nat.ble ((a ++ [M.w8 (n.fdiv 256)]).length + 1) 4294967296 && true then some (.gsl 0 2, [(0, .grow 1 2 (.ints .u8 (a ++ [M.w8 (n.fdiv 256)] ++ [M.w8 (n.fdiv 1)])))], 1) else none else none) by kernel_rfl).trans ?_
    rw [(wr_eq a n).2.2.1]
    simp only [h1, h2, h3, h4, Bool.and_true, cond_true]
    rfl
  · refine (show callB s6 noCall 10 78 [.agg [.int .i64 3, .bool false], .gsl 0 0, .int .i64 n] [(0, .grow 1 0 (.ints .u8 a))] 1 = (bif Nat.ble ((a).length + 1) 4294967296 && true then bif Nat.ble ((a ++ [M.w8 (n.fdiv 1)]).length + 1) 4294967296 && true then bif Nat.ble ((a ++ [M.w8 (n.fdiv 1)] ++ [M.w8 (n.fdiv 256)]).length + 1) 4294967296 && true then some (.gsl 0 3, [(0, .grow 1 3 (.ints .u8 (a ++ [M.w8 (n.fdiv 1)] ++ [M.w8 (n.fdiv 256)] ++ [M.w8 (n.fdiv 65536)])))], 1) else none else none else none) by kernel_rfl).trans ?_
    rw [(wr_eq a n).2.2.2.1]
    simp only [h1, h2, h3, h4, Bool.and_true, cond_true]
    rfl
  · refine (show callB s6 noCall 10 78 [.agg [.int .i64 3, .bool true], .gsl 0 0, .int .i64 n] [(0, .grow 1 0 (.ints .u8 a))] 1 = (bif Nat.ble ((a).length + 1) 4294967296 && true then bif Nat.ble ((a ++ [M.w8 (n.fdiv 65536)]).length + 1) 4294967296 && true then bif Nat.ble ((a ++ [M.w8 (n.fdiv 65536)] ++ [M.w8 (n.fdiv 256)]).length + 1) 4294967296 && true then some (.gsl 0 3, [(0, .grow 1 3 (.ints .u8 (a ++ [M.w8 (n.fdiv 65536)] ++ [M.w8 (n.fdiv 256)] ++ [M.w8 (n.fdiv 1)])))], 1) else none else none else none) by kernel_rfl).trans ?_
    rw [(wr_eq a n).2.2.2.2.1]
    simp only [h1, h2, h3, h4, Bool.and_true, cond_true]
    rfl
  · refine (show callB s6 noCall 10 78 [.agg [.int .i64 4, .bool false], .gsl 0 0, .int .i64 n] [(0, .grow 1 0 (.ints .u8 a))] 1 = (bif Nat.ble ((a).length + 1) 4294967296 && true then bif Nat.ble ((a ++ [M.w8 (n.fdiv 1)]).length + 1) 4294967296 && true then bif Nat.ble ((a ++ [M.w8 (n.fdiv 1)] ++ [M.w8 (n.fdiv 256)]).length + 1) 4294967296 && true then bif Nat.ble ((a ++ [M.w8 (n.fdiv 1)] ++ [M.w8 (n.fdiv 256)] ++ [M.w8 (n.fdiv 65536)]).length + 1) 4294967296 && true then some (.gsl 0 4, [(0, .grow 1 4 (.ints .u8 (a ++ [M.w8 (n.fdiv 1)] ++ [M.w8 (n.fdiv 256)] ++ [M.w8 (n.fdiv 65536)] ++ [M.w8 (n.fdiv 16777216)])))], 1) else none else none else none else none) by kernel_rfl).trans ?_
    rw [(wr_eq a n).2.2.2.2.2.1]
    simp only [h1, h2, h3, h4, Bool.and_true, cond_true]
    rfl
  · refine (show callB s6 noCall 10 78 [.agg [.int .i64 4, .bool true], .gsl 0 0, .int .i64 n] [(0, .grow 1 0 (.ints .u8 a))] 1 = (bif Nat.ble ((a).length + 1) 4294967296 && true then bif Nat.ble ((a ++ [M.w8 (n.fdiv 16777216)]).length + 1) 4294967296 && true then bif Nat.ble ((a ++ [M.w8 (n.fdiv 16777216)] ++ [M.w8 (n.fdiv 65536)]).length + 1) 4294967296 && true then bif Nat.ble ((a ++ [M.w8 (n.fdiv 16777216)] ++ [M.w8 (n.fdiv 65536)] ++ [M.w8 (n.fdiv 256)]).length + 1) 4294967296 && true then some (.gsl 0 4, [(0, .grow 1 4 (.ints .u8 (a ++ [M.w8 (n.fdiv 16777216)] ++ [M.w8 (n.fdiv 65536)] ++ [M.w8 (n.fdiv 256)] ++ [M.w8 (n.fdiv 1)])))], 1) else none else none else none else none) by kernel_rfl).trans ?_
    rw [(wr_eq a n).2.2.2.2.2.2]
    simp only [h1, h2, h3, h4, Bool.and_true, cond_true]
    rfl
def m_write : List AV → Sto → Option (Bool × AV × Upd × Nat)
  | [.agg [.int .i64 sz, .bool bg], .gsl 0 0, .int .i64 n], [(0, .grow 1 0 (.ints .u8 a))] => some ((M.okF sz bg && M.okW a), .gsl 0 sz.toNat, [(0, .grow 1 sz.toNat (.ints .u8 (a ++ M.wr sz bg n)))], 1)
  | _, _ => none
noncomputable def s7 : Cfg := s6.addR 78 m_write
theorem s7_ok : CfgOK s7 := addR_ok s6_ok fun xs s v u nx h => by
  unfold m_write at h; split at h
  · simp only [Option.some.injEq, Prod.mk.injEq] at h; obtain ⟨h1, rfl, rfl, rfl⟩ := h; exact callB_ok s6_ok noCall_ok 10 _ _ _ _ _ _ _ (e_write _ _ _ _ h1)
  · cases h

theorem or_byte {n b : Int} (h0 : 0 ≤ n) (h1 : n < 16777216) (hb0 : 0 ≤ b) (hb1 : b ≤ 255) : orI .i64 (M.w64 (n * 256)) (M.w64 b) = n * 256 + b := by
  obtain ⟨m, rfl⟩ := Int.eq_ofNat_of_zero_le h0
  obtain ⟨c, rfl⟩ := Int.eq_ofNat_of_zero_le hb0
  rw [w64_in (n := (m : Int) * 256) (by omega) (by omega), w64_in (n := (c : Int)) (by omega) (by omega)]
  unfold orI
  have hx : (BitVec.ofInt IntKind.i64.bits ((m : Int) * 256) ||| BitVec.ofInt IntKind.i64.bits (c : Int)).toNat = m * 256 + c := by
    have e : ((m : Int) * 256) = ((m * 256 : Nat) : Int) := by omega
    rw [e, BitVec.toNat_or]
    show (BitVec.ofInt 64 ((m * 256 : Nat) : Int)).toNat ||| (BitVec.ofInt 64 (c : Int)).toNat = _
    rw [BitVec.ofInt_natCast, BitVec.ofInt_natCast, BitVec.toNat_ofNat, BitVec.toNat_ofNat, Nat.mod_eq_of_lt (by omega), Nat.mod_eq_of_lt (by omega)]
    have := Nat.two_pow_add_eq_or_of_lt (i := 8) (b := c) (by omega) m
    rw [Nat.mul_comm m 256]
    exact this.symm
  rw [hx]
  have := w64_in (n := ((m * 256 + c : Nat) : Int)) (by omega) (by omega)
  unfold M.w64 at this
  rw [this]; omega
theorem orU_aux : ∀ (l : List Int) (n : Int) (k : Nat), 0 ≤ n → n < 256 ^ k → k + l.length ≤ 4 → M.byt l = true → l.foldl (fun n b => orI .i64 (M.w64 (n * 256)) (M.w64 b)) n = l.foldl (fun n b => n * 256 + b) n
  | [], _, _, _, _, _, _ => rfl
  | b :: l, n, k, h0, h1, h2, h3 => by
    simp only [M.byt, List.all_cons, Bool.and_eq_true, decide_eq_true_eq] at h3
    simp only [List.length_cons] at h2
    have hk : n < 16777216 := by
      have : k = 0 ∨ k = 1 ∨ k = 2 ∨ k = 3 := by omega
      rcases this with rfl | rfl | rfl | rfl <;> simp at h1 <;> omega
    simp only [List.foldl_cons]
    rw [or_byte h0 hk h3.1.1 h3.1.2]
    refine orU_aux l _ (k + 1) (by omega) ?_ (by omega) h3.2
    rw [Int.pow_succ]; omega
theorem orU_eq {l : List Int} (h : M.byt l = true) (hl : l.length ≤ 4) : M.orU l = M.uns l := orU_aux l 0 0 (by omega) (by decide) (by omega) h
theorem byt_reverse {l : List Int} (h : M.byt l = true) : M.byt l.reverse = true := by
  unfold M.byt at h ⊢; rw [List.all_reverse]; exact h
theorem uns_range : ∀ (l : List Int) (n : Int), M.byt l = true → 0 ≤ n → n * 256 ^ l.length ≤ l.foldl (fun n b => n * 256 + b) n ∧ l.foldl (fun n b => n * 256 + b) n < (n + 1) * 256 ^ l.length
  | [], n, _, h => by simp; omega
  | b :: l, n, h, h0 => by
    simp only [M.byt, List.all_cons, Bool.and_eq_true, decide_eq_true_eq] at h
    obtain ⟨a1, a2⟩ := uns_range l (n * 256 + b) h.2 (by omega)
    simp only [List.foldl_cons, List.length_cons, Int.pow_succ]
    have hp : (0 : Int) < 256 ^ l.length := Int.pow_pos (by omega)
    have e1 : n * (256 ^ l.length * 256) = n * 256 * 256 ^ l.length := by rw [Int.mul_comm (256 ^ l.length) 256, Int.mul_assoc]
    have e2 : (n + 1) * (256 ^ l.length * 256) = (n + 1) * 256 * 256 ^ l.length := by rw [Int.mul_comm (256 ^ l.length) 256, Int.mul_assoc]
    have m1 : n * 256 * 256 ^ l.length ≤ (n * 256 + b) * 256 ^ l.length := Int.mul_le_mul_of_nonneg_right (by omega) (by omega)
    have m2 : (n * 256 + b + 1) * 256 ^ l.length ≤ (n + 1) * 256 * 256 ^ l.length := Int.mul_le_mul_of_nonneg_right (by omega) (by omega)
    rw [e1, e2]; omega

theorem list1 {l : List Int} (h : (l.length : Int) = 1) : ∃ a, l = [a] := by
  match l, h with
  | [a], _ => exact ⟨a, rfl⟩
theorem list2 {l : List Int} (h : (l.length : Int) = 2) : ∃ a b, l = [a, b] := by
  obtain ⟨a, l', rfl⟩ := List.exists_cons_of_length_eq_add_one (n := 1) (l := l) (by omega)
  obtain ⟨b, rfl⟩ := list1 (l := l') (by simp at h; omega)
  exact ⟨a, b, rfl⟩
theorem list3 {l : List Int} (h : (l.length : Int) = 3) : ∃ a b c, l = [a, b, c] := by
  obtain ⟨a, l', rfl⟩ := List.exists_cons_of_length_eq_add_one (n := 2) (l := l) (by omega)
  obtain ⟨b, c, rfl⟩ := list2 (l := l') (by simp at h; omega)
  exact ⟨a, b, c, rfl⟩
theorem list4 {l : List Int} (h : (l.length : Int) = 4) : ∃ a b c d, l = [a, b, c, d] := by
  obtain ⟨a, l', rfl⟩ := List.exists_cons_of_length_eq_add_one (n := 3) (l := l) (by omega)
  obtain ⟨b, c, d, rfl⟩ := list3 (l := l') (by simp at h; omega)
  exact ⟨a, b, c, d, rfl⟩

theorem e_read (sz : Int) (bg : Bool) (l : List Int) (hc : M.okR sz bg l = true) : Ev (callB s7 noCall 10 86 [.agg [.int .i64 sz, .bool bg], .vi .u8 l] [] 0) (.int .i64 (M.rd sz bg l)) := by
  unfold M.okR at hc
  simp only [Bool.and_eq_true, decide_eq_true_eq] at hc
  obtain ⟨⟨hf, hl⟩, hb⟩ := hc
  rcases okF_cases hf with ⟨rfl, rfl⟩ | ⟨rfl, rfl⟩ | ⟨rfl, rfl⟩ | ⟨rfl, rfl⟩ | ⟨rfl, rfl⟩ | ⟨rfl, rfl⟩ | ⟨rfl, rfl⟩
  · obtain ⟨x0, rfl⟩ : ∃ x0, l = [x0] := by
      exact list1 hl
    rw [show callB s7 noCall 10 86 [.agg [.int .i64 1, .bool false], .vi .u8 [x0]] [] 0 = some (.int .i64 (M.orU [x0]), [], 0) by kernel_rfl]
    have hu : M.orU [x0] = M.uns [x0] := orU_eq (l := [x0]) (byt_reverse hb) (by simp)
    obtain ⟨u1, u2⟩ := uns_range [x0] 0 (byt_reverse hb) (by omega)
    have u2' : M.uns [x0] < 256 := by simpa [M.uns] using u2
    have u1' : 0 ≤ M.uns [x0] := by simpa [M.uns] using u1
    rw [hu]
    exact ⟨_, [], 0, rfl, rfl, .refl _⟩
  · obtain ⟨x0, x1, rfl⟩ : ∃ x0 x1, l = [x0, x1] := by
      exact list2 hl
    rw [show callB s7 noCall 10 86 [.agg [.int .i64 2, .bool false], .vi .u8 [x0, x1]] [] 0 = (bif decide (M.orU [x1, x0] ≥ 32768) then some (.int .i64 (M.w64 (M.orU [x1, x0] - 65536)), [], 0) else some (.int .i64 (M.orU [x1, x0]), [], 0)) by kernel_rfl]
    have hu : M.orU [x1, x0] = M.uns [x1, x0] := orU_eq (l := [x1, x0]) (byt_reverse hb) (by simp)
    obtain ⟨u1, u2⟩ := uns_range [x1, x0] 0 (byt_reverse hb) (by omega)
    have u2' : M.uns [x1, x0] < 65536 := by simpa [M.uns] using u2
    have u1' : 0 ≤ M.uns [x1, x0] := by simpa [M.uns] using u1
    rw [hu]
    have hv : M.rd 2 false [x0, x1] = bif decide (M.uns [x1, x0] ≥ 32768) then M.uns [x1, x0] - 65536 else M.uns [x1, x0] := by kernel_rfl
    rw [hv, w64_in (by omega) (by omega)]
    cases decide (M.uns [x1, x0] ≥ 32768) <;> exact ⟨_, [], 0, rfl, rfl, .refl _⟩
  · obtain ⟨x0, x1, rfl⟩ : ∃ x0 x1, l = [x0, x1] := by
      exact list2 hl
    rw [show callB s7 noCall 10 86 [.agg [.int .i64 2, .bool true], .vi .u8 [x0, x1]] [] 0 = (bif decide (M.orU [x0, x1] ≥ 32768) then some (.int .i64 (M.w64 (M.orU [x0, x1] - 65536)), [], 0) else some (.int .i64 (M.orU [x0, x1]), [], 0)) by kernel_rfl]
    have hu : M.orU [x0, x1] = M.uns [x0, x1] := orU_eq (l := [x0, x1]) hb (by simp)
    obtain ⟨u1, u2⟩ := uns_range [x0, x1] 0 hb (by omega)
    have u2' : M.uns [x0, x1] < 65536 := by simpa [M.uns] using u2
    have u1' : 0 ≤ M.uns [x0, x1] := by simpa [M.uns] using u1
    rw [hu]
    have hv : M.rd 2 true [x0, x1] = bif decide (M.uns [x0, x1] ≥ 32768) then M.uns [x0, x1] - 65536 else M.uns [x0, x1] := by kernel_rfl
    rw [hv, w64_in (by omega) (by omega)]
    cases decide (M.uns [x0, x1] ≥ 32768) <;> exact ⟨_, [], 0, rfl, rfl, .refl _⟩
  · obtain ⟨x0, x1, x2, rfl⟩ : ∃ x0 x1 x2, l = [x0, x1, x2] := by
      exact list3 hl
    rw [show callB s7 noCall 10 86 [.agg [.int .i64 3, .bool false], .vi .u8 [x0, x1, x2]] [] 0 = (bif decide (M.orU [x2, x1, x0] ≥ 8388608) then some (.int .i64 (M.w64 (M.orU [x2, x1, x0] - 16777216)), [], 0) else some (.int .i64 (M.orU [x2, x1, x0]), [], 0)) by kernel_rfl]
    have hu : M.orU [x2, x1, x0] = M.uns [x2, x1, x0] := orU_eq (l := [x2, x1, x0]) (byt_reverse hb) (by simp)
    obtain ⟨u1, u2⟩ := uns_range [x2, x1, x0] 0 (byt_reverse hb) (by omega)
    have u2' : M.uns [x2, x1, x0] < 16777216 := by simpa [M.uns] using u2
    have u1' : 0 ≤ M.uns [x2, x1, x0] := by simpa [M.uns] using u1
    rw [hu]
    have hv : M.rd 3 false [x0, x1, x2] = bif decide (M.uns [x2, x1, x0] ≥ 8388608) then M.uns [x2, x1, x0] - 16777216 else M.uns [x2, x1, x0] := by kernel_rfl
    rw [hv, w64_in (by omega) (by omega)]
    cases decide (M.uns [x2, x1, x0] ≥ 8388608) <;> exact ⟨_, [], 0, rfl, rfl, .refl _⟩
  · obtain ⟨x0, x1, x2, rfl⟩ : ∃ x0 x1 x2, l = [x0, x1, x2] := by
      exact list3 hl
    rw [show callB s7 noCall 10 86 [.agg [.int .i64 3, .bool true], .vi .u8 [x0, x1, x2]] [] 0 = (bif decide (M.orU [x0, x1, x2] ≥ 8388608) then some (.int .i64 (M.w64 (M.orU [x0, x1, x2] - 16777216)), [], 0) else some (.int .i64 (M.orU [x0, x1, x2]), [], 0)) by kernel_rfl]
    have hu : M.orU [x0, x1, x2] = M.uns [x0, x1, x2] := orU_eq (l := [x0, x1, x2]) hb (by simp)
    obtain ⟨u1, u2⟩ := uns_range [x0, x1, x2] 0 hb (by omega)
    have u2' : M.uns [x0, x1, x2] < 16777216 := by simpa [M.uns] using u2
    have u1' : 0 ≤ M.uns [x0, x1, x2] := by simpa [M.uns] using u1
    rw [hu]
    have hv : M.rd 3 true [x0, x1, x2] = bif decide (M.uns [x0, x1, x2] ≥ 8388608) then M.uns [x0, x1, x2] - 16777216 else M.uns [x0, x1, x2] := by kernel_rfl
    rw [hv, w64_in (by omega) (by omega)]
    cases decide (M.uns [x0, x1, x2] ≥ 8388608) <;> exact ⟨_, [], 0, rfl, rfl, .refl _⟩
  · obtain ⟨x0, x1, x2, x3, rfl⟩ : ∃ x0 x1 x2 x3, l = [x0, x1, x2, x3] := by
      exact list4 hl
    rw [show callB s7 noCall 10 86 [.agg [.int .i64 4, .bool false], .vi .u8 [x0, x1, x2, x3]] [] 0 = (bif decide (M.orU [x3, x2, x1, x0] ≥ 2147483648) then some (.int .i64 (M.w64 (M.orU [x3, x2, x1, x0] - 4294967296)), [], 0) else some (.int .i64 (M.orU [x3, x2, x1, x0]), [], 0)) by kernel_rfl]
    have hu : M.orU [x3, x2, x1, x0] = M.uns [x3, x2, x1, x0] := orU_eq (l := [x3, x2, x1, x0]) (byt_reverse hb) (by simp)
    obtain ⟨u1, u2⟩ := uns_range [x3, x2, x1, x0] 0 (byt_reverse hb) (by omega)
    have u2' : M.uns [x3, x2, x1, x0] < 4294967296 := by simpa [M.uns] using u2
    have u1' : 0 ≤ M.uns [x3, x2, x1, x0] := by simpa [M.uns] using u1
    rw [hu]
    have hv : M.rd 4 false [x0, x1, x2, x3] = bif decide (M.uns [x3, x2, x1, x0] ≥ 2147483648) then M.uns [x3, x2, x1, x0] - 4294967296 else M.uns [x3, x2, x1, x0] := by kernel_rfl
    rw [hv, w64_in (by omega) (by omega)]
    cases decide (M.uns [x3, x2, x1, x0] ≥ 2147483648) <;> exact ⟨_, [], 0, rfl, rfl, .refl _⟩
  · obtain ⟨x0, x1, x2, x3, rfl⟩ : ∃ x0 x1 x2 x3, l = [x0, x1, x2, x3] := by
      exact list4 hl
    rw [show callB s7 noCall 10 86 [.agg [.int .i64 4, .bool true], .vi .u8 [x0, x1, x2, x3]] [] 0 = (bif decide (M.orU [x0, x1, x2, x3] ≥ 2147483648) then some (.int .i64 (M.w64 (M.orU [x0, x1, x2, x3] - 4294967296)), [], 0) else some (.int .i64 (M.orU [x0, x1, x2, x3]), [], 0)) by kernel_rfl]
    have hu : M.orU [x0, x1, x2, x3] = M.uns [x0, x1, x2, x3] := orU_eq (l := [x0, x1, x2, x3]) hb (by simp)
    obtain ⟨u1, u2⟩ := uns_range [x0, x1, x2, x3] 0 hb (by omega)
    have u2' : M.uns [x0, x1, x2, x3] < 4294967296 := by simpa [M.uns] using u2
    have u1' : 0 ≤ M.uns [x0, x1, x2, x3] := by simpa [M.uns] using u1
    rw [hu]
    have hv : M.rd 4 true [x0, x1, x2, x3] = bif decide (M.uns [x0, x1, x2, x3] ≥ 2147483648) then M.uns [x0, x1, x2, x3] - 4294967296 else M.uns [x0, x1, x2, x3] := by kernel_rfl
    rw [hv, w64_in (by omega) (by omega)]
    cases decide (M.uns [x0, x1, x2, x3] ≥ 2147483648) <;> exact ⟨_, [], 0, rfl, rfl, .refl _⟩
def m_read : List AV → Option (Bool × AV)
  | [.agg [.int .i64 sz, .bool bg], l_] => (asVi .u8 l_).bind fun l => some (M.okR sz bg l, .int .i64 (M.rd sz bg l))
  | _ => none
noncomputable def s8 : Cfg := s7.add 86 m_read
theorem s8_ok : CfgOK s8 := add_ok s7_ok fun xs v h => by
  unfold m_read at h; split at h
  · obtain ⟨l, h_l, h⟩ := Option.bind_eq_some_iff.1 h
    simp only [Option.some.injEq, Prod.mk.injEq] at h; obtain ⟨h1, rfl⟩ := h
    exact Ev.pure s7_ok noCall_ok (e_read _ _ _ h1) (.cons (.leaf (.refl _)) (.cons (.leaf (asVi_le h_l)) (.refl _)))
  · cases h

end Go.Proofs.Ytooiechjanmdjaa
