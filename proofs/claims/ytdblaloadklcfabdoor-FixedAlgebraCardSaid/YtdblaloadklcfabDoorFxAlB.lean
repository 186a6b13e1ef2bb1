/- FixedAlgebra: arithmetic that its runs share. -/
import Derived.Test.YtdblaloadklcfabDoorFxB
import Derived.Test.YtdblaloadklcfabDoorSx26
namespace Go.Proofs.YtdblaloadklcfabDoor
open Go.Sx
theorem wid_u64 (n : Int) (h1 : 0 ≤ n) (h2 : n ≤ 18446744073709551615) : IntKind.wrap .u64 n = n := wrap_id .u64 n h1 h2
theorem wid_i64 (n : Int) (h1 : -9223372036854775808 ≤ n) (h2 : n ≤ 9223372036854775807) : IntKind.wrap .i64 n = n := wrap_id .i64 n h1 h2
theorem wid_i32 (n : Int) (h1 : -2147483648 ≤ n) (h2 : n ≤ 2147483647) : IntKind.wrap .i32 n = n := wrap_id .i32 n h1 h2
theorem neg_u64 (n : Int) (h1 : n < 0) (h2 : -9223372036854775808 ≤ n) : IntKind.wrap .u64 (0 - IntKind.wrap .u64 n) = -n := by rw [w_u64, w_u64]; omega
theorem prod (a b : Int) (ha : -2147483648 ≤ a ∧ a ≤ 2147483647) (hb : -2147483648 ≤ b ∧ b ≤ 2147483647) : -4611686018427387904 ≤ a * b ∧ a * b ≤ 4611686018427387904 := by
  have h := mulR_ok (a := ⟨some (-2147483648), some 2147483647⟩) (b := ⟨some (-2147483648), some 2147483647⟩) (i := a) (j := b)
    ⟨fun l hl => by cases hl; exact ha.1, fun l hl => by cases hl; exact ha.2⟩ ⟨fun l hl => by cases hl; exact hb.1, fun l hl => by cases hl; exact hb.2⟩
  have h1 := h.1 (-4611686016279904256) rfl
  have h2 := h.2 4611686018427387904 rfl
  omega
/-- The arguments of the laws over two numbers. -/
def ys2 : List V := [.sym (.int .i32) (.ivar .i32 0), .sym (.int .i32) (.ivar .i32 1)]
/-- The signs of the two. -/
def pcAl (p q : Bool) : PC := [(.cmp .lss (.conv .i64 (.ivar .i32 0)) (.int .i64 0), p), (.cmp .lss (.conv .i64 (.ivar .i32 1)) (.int .i64 0), q)]
end Go.Proofs.YtdblaloadklcfabDoor
