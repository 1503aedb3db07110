/- What is kept at the heads of loops. -/
import Derived.Test.YtplcpdjabjjfiaaAmWeak
import Derived.Test.YtplcpdjabjjfiaaProg
namespace Go.Proofs.Ytplcpdjabjjfiaa
open Am
set_option linter.unusedSimpArgs false
set_option maxRecDepth 100000
def keep : Nat → Nat → Option (List Nat)
  | 33, 0 => some [2, 32, 33, 34]
  | 38, 0 => some [0, 1, 4, 12, 13]
  | 40, 0 => some [0, 1, 4, 12, 13]
  | 36, 0 => some [2, 32, 33, 34]
  | 15, 0 => some [0, 1, 2, 6, 7, 8]
  | 54, 0 => some [0, 1, 4, 7, 8]
  | 27, 0 => some [1, 4, 7, 8, 9]
  | 41, 0 => some [0, 2, 13, 14, 15]
  | 45, 0 => some [0, 2, 5, 6, 7]
  | 18, 0 => some [2, 35, 36, 37]
  | 19, 0 => some [2, 35, 36, 37]
  | 16, 0 => some [2, 3, 4, 5, 6, 7, 8]
  | 16, 2 => some [2, 3, 4, 5, 6, 7, 8, 43, 44, 45]
  | 16, 4 => some [2, 3, 4, 5, 6, 7, 8, 10, 11, 43, 44, 45, 56, 57, 58]
  | 17, 0 => some [2, 3, 4, 5, 6, 7]
  | 17, 2 => some [2, 3, 4, 5, 6, 7, 8]
  | 17, 4 => some [2, 3, 4, 5, 6, 7, 8, 9, 10]
  | 31, 0 => some [2, 3, 4, 5, 6, 7]
  | 31, 2 => some [2, 3, 4, 5, 6, 7, 8]
  | 31, 4 => some [2, 3, 4, 5, 6, 7, 8, 9, 10]
  | 30, 2 => some [2, 3, 4, 5, 6, 7, 8, 9, 10, 40, 41, 42, 47, 48, 49]
  | 30, 4 => some [2, 3, 4, 5, 6, 7, 8, 9, 10, 11, 12, 40, 41, 42, 47, 48, 49, 55, 56, 57]
  | 14, 0 => some [0, 1, 2, 6, 7, 8]
  | 24, 0 => some [0, 1, 4, 5, 6, 7, 31, 32, 33]
  | 25, 0 => some [0, 1, 4, 5, 6, 34, 35, 36]
  | 6, 0 => some [0, 1, 2, 3, 8, 9, 10, 79, 80, 81]
  | 6, 2 => some [0, 1, 2, 3, 8, 9, 10, 11, 12, 13, 14, 79, 80, 81, 86, 87, 88]
  | 6, 5 => some [8, 9, 17, 18, 19, 20, 162, 163, 164]
  | 28, 0 => some [2, 4, 5, 6, 7, 13, 14, 15]
  | _, _ => none
def muts : List Nat := [
  39,
  999999]
noncomputable def k0 : Cfg := (base Try.prog keep).withMuts muts
theorem k0_ok : CfgOK k0 := muts_ok (base_ok (noNum_of (by kernel_rfl))) _
namespace M
def w64 (n : Int) : Int := IntKind.i64.wrap n
def w32 (n : Int) : Int := IntKind.i32.wrap n
def w8 (n : Int) : Int := IntKind.u8.wrap n
end M
theorem w64_in {n : Int} (h1 : -9223372036854775808 ≤ n) (h2 : n ≤ 9223372036854775807) : M.w64 n = n := by
  unfold M.w64
  simp [IntKind.wrap, IntKind.min, IntKind.max, IntKind.signed, IntKind.bits]
  omega
theorem w32_in {n : Int} (h1 : -2147483648 ≤ n) (h2 : n ≤ 2147483647) : M.w32 n = n := by
  unfold M.w32
  simp [IntKind.wrap, IntKind.min, IntKind.max, IntKind.signed, IntKind.bits]
  omega
theorem w8_in {n : Int} (h1 : 0 ≤ n) (h2 : n ≤ 255) : M.w8 n = n := by
  unfold M.w8
  simp [IntKind.wrap, IntKind.min, IntKind.max, IntKind.signed, IntKind.bits]
  omega
end Go.Proofs.Ytplcpdjabjjfiaa
