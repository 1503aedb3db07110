/- What is kept at the heads of loops. -/
import Derived.Test.YtpiolahnigdjmaaAmWeak
import Derived.Test.YtpiolahnigdjmaaProg
namespace Go.Proofs.Ytpiolahnigdjmaa
open Am
set_option linter.unusedSimpArgs false
set_option maxRecDepth 100000
def keep : Nat → Nat → Option (List Nat)
  | 12, 1 => some [4, 5, 6, 7, 27, 28, 29]
  | 13, 0 => some [0, 4, 5, 6, 7, 20, 21, 22]
  | 19, 1 => some [0, 1, 6, 7, 8]
  | 25, 0 => some [2, 32, 33, 34]
  | 18, 0 => some [0, 1, 5, 12, 13]
  | 15, 0 => some [0, 1, 4, 12, 13]
  | 26, 0 => some [2, 32, 33, 34]
  | 14, 1 => some [1, 6, 7, 8]
  | 10, 0 => some [0, 1, 2, 6, 7, 8]
  | _, _ => none
noncomputable def k0 : Cfg := base Try.prog keep
theorem k0_ok : CfgOK k0 := base_ok (noNum_of (by kernel_rfl))
namespace M
def w64 (n : Int) : Int := IntKind.i64.wrap n
def w32 (n : Int) : Int := IntKind.i32.wrap n
def w8 (n : Int) : Int := IntKind.u8.wrap n
end M
theorem w64_in {n : Int} (h1 : -9223372036854775808 ≤ n) (h2 : n ≤ 9223372036854775807) : M.w64 n = n := by
  unfold M.w64
  simp [IntKind.wrap, IntKind.min, IntKind.max, IntKind.signed, IntKind.bits]
  omega
theorem w32_in {n : Int} (h1 : -2147483648 ≤ n) (h2 : n ≤ 2147483647) : M.w32 n = n := by
  unfold M.w32
  simp [IntKind.wrap, IntKind.min, IntKind.max, IntKind.signed, IntKind.bits]
  omega
theorem w8_in {n : Int} (h1 : 0 ≤ n) (h2 : n ≤ 255) : M.w8 n = n := by
  unfold M.w8
  simp [IntKind.wrap, IntKind.min, IntKind.max, IntKind.signed, IntKind.bits]
  omega
end Go.Proofs.Ytpiolahnigdjmaa
