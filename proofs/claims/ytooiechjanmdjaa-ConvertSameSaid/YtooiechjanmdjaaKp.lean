/- What is kept at the heads of loops. -/
import Derived.Test.YtooiechjanmdjaaAmWeak
import Derived.Test.YtooiechjanmdjaaProg
namespace Go.Proofs.Ytooiechjanmdjaa
open Am
set_option linter.unusedSimpArgs false
set_option maxRecDepth 100000
def keep : Nat → Nat → Option (List Nat)
  | 49, 1 => some [4, 5, 6, 7, 27, 28, 29]
  | 65, 0 => some [2, 32, 33, 34]
  | 63, 0 => some [0, 1, 4, 12, 13]
  | 36, 0 => some [0, 1, 4, 12, 13]
  | 62, 0 => some [0, 1, 4, 12, 13]
  | 68, 0 => some [2, 32, 33, 34]
  | 72, 1 => some [1, 6, 7, 8]
  | 79, 0 => some [0, 1, 4, 7, 8]
  | 58, 0 => some [1, 4, 7, 8, 9]
  | 40, 0 => some [0, 2, 13, 14, 15]
  | 42, 0 => some [0, 2, 5, 6, 7]
  | 88, 0 => some [2, 35, 36, 37]
  | 73, 0 => some [2, 3, 4, 5, 6, 7, 8]
  | 73, 2 => some [2, 3, 4, 5, 6, 7, 8, 43, 44, 45]
  | 73, 4 => some [2, 3, 4, 5, 6, 7, 8, 10, 11, 43, 44, 45, 56, 57, 58]
  | 27, 0 => some [0, 1, 4, 5, 6, 7, 31, 32, 33]
  | 30, 0 => some [0, 1, 4, 5, 6, 34, 35, 36]
  | _, _ => none
def muts : List Nat := [
  51,
  999999]
noncomputable def k0 : Cfg := (base Try.prog keep).withMuts muts
theorem k0_ok : CfgOK k0 := muts_ok (base_ok (noNum_of (by kernel_rfl))) _
namespace M
def w64 (n : Int) : Int := IntKind.i64.wrap n
def w32 (n : Int) : Int := IntKind.i32.wrap n
def w8 (n : Int) : Int := IntKind.u8.wrap n
end M
theorem w64_in {n : Int} (h1 : -9223372036854775808 ≤ n) (h2 : n ≤ 9223372036854775807) : M.w64 n = n := by
  unfold M.w64
  simp [IntKind.wrap, IntKind.min, IntKind.max, IntKind.signed, IntKind.bits]
  omega
theorem w32_in {n : Int} (h1 : -2147483648 ≤ n) (h2 : n ≤ 2147483647) : M.w32 n = n := by
  unfold M.w32
  simp [IntKind.wrap, IntKind.min, IntKind.max, IntKind.signed, IntKind.bits]
  omega
theorem w8_in {n : Int} (h1 : 0 ≤ n) (h2 : n ≤ 255) : M.w8 n = n := by
  unfold M.w8
  simp [IntKind.wrap, IntKind.min, IntKind.max, IntKind.signed, IntKind.bits]
  omega
end Go.Proofs.Ytooiechjanmdjaa
