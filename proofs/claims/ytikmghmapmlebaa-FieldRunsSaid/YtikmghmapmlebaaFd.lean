/-
  The program's 64-bit product and sum, as the library has them; no condition but the kind's bounds.
-/
import Derived.Test.YtikmghmapmlebaaFa
import Derived.Laws.MathBits
import Derived.Laws.Externs
namespace Go.Proofs.Ytikmghmapmlebaa
open Go.RowKit Go.Rh F255

set_option maxRecDepth 100000 in
set_option maxHeartbeats 400000 in
theorem mul64_any (x y : Nat) (hx : x < 18446744073709551616) (hy : y < 18446744073709551616) (w : World) :
    Calls Try.prog 39 #[.int .u64 x, .int .u64 y] w fun e w' => e = .returned (.tuple #[.int .u64 ((x * y / 18446744073709551616 : Nat) : Int), .int .u64 ((x * y % 18446744073709551616 : Nat) : Int)]) ∧ w = w' := by
  have ax := Lib.hid (and_low32 (x : Int) (by omega) (by omega))
  have ay := Lib.hid (and_low32 (y : Int) (by omega) (by omega))
  have HM := Lib.hid (mul64_arith (x : Int) (y : Int) (by omega) (by omega) (by omega) (by omega))
  have al := Lib.hid (fun z (h0 : 0 ≤ z) (h1 : z < 18446744073709551616) => and_low32 z h0 h1)
  clear hx hy
  go_enter Try.func39, Try.ntmps39
  go_wp2
  go_ret2
  simp only
  refine ⟨?_, trivial⟩
  rw [ax.out, ay.out, al.out (IntKind.u64.wrap _) (by rw [IntKind.wrap_u64]; omega) (by rw [IntKind.wrap_u64]; omega)]
  simp only [IntKind.wrap_u64]
  have h2 : ((x * y % 18446744073709551616 : Nat) : Int) = (x : Int) * (y : Int) % 18446744073709551616 := by simp
  have h1 : ((x * y / 18446744073709551616 : Nat) : Int) = (x : Int) * (y : Int) / 18446744073709551616 := by simp
  rw [h1, h2, ← HM.out]
  rfl

theorem add64_run (x y : Nat) (w : World) : (callFunc 40 #[.int .u64 x, .int .u64 y, .int .u64 0]).run Try.prog w =
    .ok (.value (.tuple #[.int .u64 (((x + y) % 18446744073709551616 : Nat) : Int), .int .u64 (((x + y) / 18446744073709551616 : Nat) : Int)])) w := by
  have h := run_callFunc_extern (P := Try.prog) (e := add64Entry) Try.func40 (by kernel_rfl) (by kernel_rfl) (by kernel_rfl) (by kernel_rfl) #[.int .u64 (x : Int), .int .u64 (y : Int), .int .u64 0] w
  rw [h, run_add64 (x : Int) (y : Int) 0 (by omega) (by omega) (by decide) (by decide) w]
  have e1 : ((x : Int) + (y : Int) + 0) % 18446744073709551616 = (((x + y) % 18446744073709551616 : Nat) : Int) := by simp
  have e2 : ((x : Int) + (y : Int) + 0) / 18446744073709551616 = (((x + y) / 18446744073709551616 : Nat) : Int) := by simp
  rw [e1, e2]
  rfl
end Go.Proofs.Ytikmghmapmlebaa
