/-
  The program's carry, as numbers; its condition: digits below 2^63.
-/
import Derived.Test.YtikmghmapmlebaaRows
import Derived.Test.YtikmghmapmlebaaG
import Derived.Test.YtikmghmapmlebaaN
import Derived.Test.YtikmghmapmlebaaFb
import Derived.StillTailTactics
namespace Go.Proofs.Ytikmghmapmlebaa
open Go.RowKit Go.Rh F255

def P51 : Nat := 2251799813685248
/-- carry, as numbers. -/
def cs1 (f : Nat → Nat) : Nat := f 1 + f 0 / 2251799813685248
def cs2 (f : Nat → Nat) : Nat := f 2 + cs1 f / 2251799813685248
def cs3 (f : Nat → Nat) : Nat := f 3 + cs2 f / 2251799813685248
def cs4 (f : Nat → Nat) : Nat := f 4 + cs3 f / 2251799813685248
def carryN (f : Nat → Nat) : Nat → Nat
  | 0 => f 0 % 2251799813685248 + 19 * (cs4 f / 2251799813685248)
  | 1 => cs1 f % 2251799813685248
  | 2 => cs2 f % 2251799813685248
  | 3 => cs3 f % 2251799813685248
  | _ => cs4 f % 2251799813685248

theorem U64_lit (f : Nat → Nat) : U64 f = #[.int .u64 (f 0), .int .u64 (f 1), .int .u64 (f 2), .int .u64 (f 3), .int .u64 (f 4)] := rfl
theorem agg_u64 {a b : Array Value} (h : a = b) : Ending.returned (.agg a) = .returned (.agg b) := by rw [h]
theorem u64_mask (x : Nat) (h : x < 18446744073709551616) : bits .and .u64 (x : Int) 2251799813685247 = ((x % 2251799813685248 : Nat) : Int) := and_u64 51 (by decide) x h
theorem u64_in' (x : Nat) (h : x < 18446744073709551616) : IntKind.u64.wrap (x : Int) = (x : Int) := wraps_u64 _ (by omega) (by omega)

theorem carry_store (f : Nat → Nat) (hf : ∀ j, j < 5 → f j < 9223372036854775808) :
    #[Value.int IntKind.u64
          (IntKind.u64.wrap
            (bits BinOp.and IntKind.u64 (IntKind.u64.wrap (f 0)) 2251799813685247 +
              IntKind.u64.wrap
                (19 *
                  (IntKind.u64.wrap
                      (f 4 +
                        IntKind.u64.wrap
                            (f 3 +
                              IntKind.u64.wrap
                                  (f 2 +
                                    IntKind.u64.wrap (f 1 + IntKind.u64.wrap (f 0) / 2251799813685248) / 2251799813685248) /
                                2251799813685248) /
                          2251799813685248) /
                    2251799813685248)))),
        Value.int IntKind.u64
          (bits BinOp.and IntKind.u64 (IntKind.u64.wrap (f 1 + IntKind.u64.wrap (f 0) / 2251799813685248))
            2251799813685247),
        Value.int IntKind.u64
          (bits BinOp.and IntKind.u64
            (IntKind.u64.wrap (f 2 + IntKind.u64.wrap (f 1 + IntKind.u64.wrap (f 0) / 2251799813685248) / 2251799813685248))
            2251799813685247),
        Value.int IntKind.u64
          (bits BinOp.and IntKind.u64
            (IntKind.u64.wrap
              (f 3 +
                IntKind.u64.wrap
                    (f 2 + IntKind.u64.wrap (f 1 + IntKind.u64.wrap (f 0) / 2251799813685248) / 2251799813685248) /
                  2251799813685248))
            2251799813685247),
        Value.int IntKind.u64
          (bits BinOp.and IntKind.u64
            (IntKind.u64.wrap
              (f 4 +
                IntKind.u64.wrap
                    (f 3 +
                      IntKind.u64.wrap
                          (f 2 + IntKind.u64.wrap (f 1 + IntKind.u64.wrap (f 0) / 2251799813685248) / 2251799813685248) /
                        2251799813685248) /
                  2251799813685248))
            2251799813685247)] = U64 (carryN f) := by
  have h0 := hf 0 (by decide); have h1 := hf 1 (by decide); have h2 := hf 2 (by decide); have h3 := hf 3 (by decide); have h4 := hf 4 (by decide)
  have q1 : cs1 f < 18446744073709551616 := by unfold cs1; omega
  have q2 : cs2 f < 18446744073709551616 := by unfold cs2; omega
  have q3 : cs3 f < 18446744073709551616 := by unfold cs3; omega
  have q4 : cs4 f < 18446744073709551616 := by unfold cs4; omega
  have e0 : IntKind.u64.wrap (f 0 : Int) = (f 0 : Int) := u64_in' _ (by omega)
  have e1 : IntKind.u64.wrap ((f 1 : Int) + (f 0 : Int) / 2251799813685248) = (cs1 f : Int) := u64_in' (cs1 f) q1
  have e2 : IntKind.u64.wrap ((f 2 : Int) + (cs1 f : Int) / 2251799813685248) = (cs2 f : Int) := u64_in' (cs2 f) q2
  have e3 : IntKind.u64.wrap ((f 3 : Int) + (cs2 f : Int) / 2251799813685248) = (cs3 f : Int) := u64_in' (cs3 f) q3
  have e4 : IntKind.u64.wrap ((f 4 : Int) + (cs3 f : Int) / 2251799813685248) = (cs4 f : Int) := u64_in' (cs4 f) q4
  rw [e0, e1, e2, e3, e4, u64_mask _ (by omega), u64_mask _ q1, u64_mask _ q2, u64_mask _ q3, u64_mask _ q4]
  have e5 : IntKind.u64.wrap (19 * ((cs4 f : Int) / 2251799813685248)) = ((19 * (cs4 f / 2251799813685248) : Nat) : Int) := u64_in' (19 * (cs4 f / 2251799813685248)) (by omega)
  rw [e5]
  have e6 : IntKind.u64.wrap (((f 0 % 2251799813685248 : Nat) : Int) + ((19 * (cs4 f / 2251799813685248) : Nat) : Int)) = ((carryN f 0 : Nat) : Int) := u64_in' (f 0 % 2251799813685248 + 19 * (cs4 f / 2251799813685248)) (by omega)
  rw [e6]
  rfl

set_option maxRecDepth 100000 in
set_option maxHeartbeats 400000 in
theorem carry_any (f : Nat → Nat) (hf : ∀ j, j < 5 → f j < 9223372036854775808) (w : World) :
    Calls Try.prog 37 #[.agg (U64 f)] w fun e w' => e = .returned (.agg (U64 (carryN f))) ∧ Below w.heap.size w w' := by
  have HS := Lib.hid (carry_store f hf)
  clear hf
  rw [U64_lit]
  go_enter Try.func37, Try.ntmps37
  go_wp2
  go_rounds 6
  go_returns
  refine ⟨agg_u64 HS.out, ?_⟩
  go_grown
end Go.Proofs.Ytikmghmapmlebaa
