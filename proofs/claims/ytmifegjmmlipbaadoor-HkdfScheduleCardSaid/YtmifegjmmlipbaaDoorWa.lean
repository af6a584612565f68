/-
  The library's RotateLeft32, by a negative count: a word turned to the right; its condition: a count of 1 to 31.
-/
import Derived.Test.YtmifegjmmlipbaaDoorRows
import Derived.Test.YtmifegjmmlipbaaDoorU
import Derived.Deep.QuietTactic
import Derived.BigQuiet
namespace Go.Proofs.YtmifegjmmlipbaaDoor
open Go.RowKit Go.Rh Sha

theorem turned (x : W) (n : Nat) (h : n ≤ 31) (h1 : 1 ≤ n) :
    bits .or .u32 (u x * 2 ^ (32 - n) % 4294967296) (u x / 2 ^ n) = u (rotr x n) := by
  rw [u_shl', u_shr, u_or]; unfold rotr; rw [BitVec.or_comm]

theorem count_and (n m : Nat) (h1 : 1 ≤ n) (h : m + n = 32) : bits .and .u64 (IntKind.u64.wrap (-(n : Int))) 31 = (m : Int) := by
  have e : IntKind.u64.wrap (-(n : Int)) = ((18446744073709551616 - n : Nat) : Int) := by rw [IntKind.wrap_u64]; omega
  have e2 := and_u64 5 (by decide) (18446744073709551616 - n) (by omega)
  rw [e]
  refine Eq.trans e2 ?_
  omega
theorem rot_any (x : W) (n : Nat) (h1 : 1 ≤ n) (h2 : n ≤ 31) (w : World) :
    Calls Tryd.prog 55 #[.int .u32 (u x), .int .i64 (-(n : Int))] w fun e w' => e = .returned (.int .u32 (u (rotr x n))) ∧ w = w' := by
  obtain ⟨m, hm⟩ : ∃ m, m + n = 32 := ⟨32 - n, by omega⟩
  have HT := Lib.hid (turned x n h2 h1)
  rw [show 32 - n = m by omega] at HT
  have e1 := count_and n m h1 hm
  have b1 : m ≤ 31 := by omega
  have e2 : IntKind.u64.wrap (32 - (m : Int)) = (n : Int) := by rw [IntKind.wrap_u64]; omega
  clear hm
  go_enter Tryd.func55, Tryd.ntmps55
  go_wp2
  go_ret
  exact ⟨congrArg (fun z => Ending.returned (.int .u32 z)) HT.out, rfl⟩
theorem rot2 (x : W) (w : World) : Calls Tryd.prog 55 #[.int .u32 (u x), .int .i64 (-2)] w fun e w' => e = .returned (.int .u32 (u (rotr x 2))) ∧ w = w' := rot_any x 2 (by decide) (by decide) w
theorem rot6 (x : W) (w : World) : Calls Tryd.prog 55 #[.int .u32 (u x), .int .i64 (-6)] w fun e w' => e = .returned (.int .u32 (u (rotr x 6))) ∧ w = w' := rot_any x 6 (by decide) (by decide) w
theorem rot7 (x : W) (w : World) : Calls Tryd.prog 55 #[.int .u32 (u x), .int .i64 (-7)] w fun e w' => e = .returned (.int .u32 (u (rotr x 7))) ∧ w = w' := rot_any x 7 (by decide) (by decide) w
theorem rot11 (x : W) (w : World) : Calls Tryd.prog 55 #[.int .u32 (u x), .int .i64 (-11)] w fun e w' => e = .returned (.int .u32 (u (rotr x 11))) ∧ w = w' := rot_any x 11 (by decide) (by decide) w
theorem rot13 (x : W) (w : World) : Calls Tryd.prog 55 #[.int .u32 (u x), .int .i64 (-13)] w fun e w' => e = .returned (.int .u32 (u (rotr x 13))) ∧ w = w' := rot_any x 13 (by decide) (by decide) w
theorem rot17 (x : W) (w : World) : Calls Tryd.prog 55 #[.int .u32 (u x), .int .i64 (-17)] w fun e w' => e = .returned (.int .u32 (u (rotr x 17))) ∧ w = w' := rot_any x 17 (by decide) (by decide) w
theorem rot18 (x : W) (w : World) : Calls Tryd.prog 55 #[.int .u32 (u x), .int .i64 (-18)] w fun e w' => e = .returned (.int .u32 (u (rotr x 18))) ∧ w = w' := rot_any x 18 (by decide) (by decide) w
theorem rot19 (x : W) (w : World) : Calls Tryd.prog 55 #[.int .u32 (u x), .int .i64 (-19)] w fun e w' => e = .returned (.int .u32 (u (rotr x 19))) ∧ w = w' := rot_any x 19 (by decide) (by decide) w
theorem rot22 (x : W) (w : World) : Calls Tryd.prog 55 #[.int .u32 (u x), .int .i64 (-22)] w fun e w' => e = .returned (.int .u32 (u (rotr x 22))) ∧ w = w' := rot_any x 22 (by decide) (by decide) w
theorem rot25 (x : W) (w : World) : Calls Tryd.prog 55 #[.int .u32 (u x), .int .i64 (-25)] w fun e w' => e = .returned (.int .u32 (u (rotr x 25))) ∧ w = w' := rot_any x 25 (by decide) (by decide) w
theorem rotI (x : W) (k : Int) (h : 1 ≤ -k ∧ -k ≤ 31) (w : World) : Calls Tryd.prog 55 #[.int .u32 (u x), .int .i64 k] w fun e w' => e = .returned (.int .u32 (u (rotr x (-k).toNat))) ∧ w = w' := by
  have e := rot_any x (-k).toNat (by omega) (by omega) w
  rwa [show -(((-k).toNat : Nat) : Int) = k by omega] at e
theorem quiet_left {P : Program} {f : FuncId} {args : Array Value} {w : World} {n : Nat} {v : Value}
    (h : Calls P f args (w.drewN n) fun e w' => e = .returned v ∧ w.drewN n = w') : Calls P f args (w.drewN n) fun e w' => e = .returned v ∧ ∃ m, w' = w.drewN m :=
  h.mono fun _ _ ⟨he, hm⟩ => ⟨he, n, hm.symm⟩
end Go.Proofs.YtmifegjmmlipbaaDoor
