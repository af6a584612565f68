/-
  The reference's turn, keys and Block: a register behind a block of a text; their conditions: a count of 1 to 31; 64 bytes.
-/
import Derived.Test.YtmifegjmmlipbaaDoorWb
import Derived.Test.YtmifegjmmlipbaaDoorJ
namespace Go.Proofs.YtmifegjmmlipbaaDoor
open Go.RowKit Go.Rh Sha

theorem turned' (x : W) (n : Nat) : bits .or .u32 (u x / 2 ^ n) (IntKind.u32.wrap (u x * 2 ^ (32 - n))) = u (rotr x n) := by
  rw [u_shl, u_shr, u_or]; rfl
theorem turnN (x : W) (n : Nat) (h1 : 1 ≤ n) (h2 : n ≤ 31) (w : World) :
    Calls Tryd.prog 54 #[.int .u32 (u x), .int .i64 (n : Int)] w fun e w' => e = .returned (.int .u32 (u (rotr x n))) ∧ ∃ m, w' = w.drewN m := by
  have HT := Lib.hid (turned' x n)
  obtain ⟨m, hm⟩ : ∃ m, m + n = 32 := ⟨32 - n, by omega⟩
  rw [show 32 - n = m by omega] at HT
  have e0 : IntKind.i64.wrap (32 - (n : Int)) = (m : Int) := by rw [IntWalk.i64_in _ (by omega)]; omega
  have b1 : m ≤ 31 := by omega
  clear hm
  go_enter Tryd.func54, Tryd.ntmps54
  go_wp2
  go_quiet (fail)
  go_wp2
  go_ret
  exact ⟨congrArg (fun z => Ending.returned (.int .u32 z)) HT.out, _, rfl⟩
theorem turnI (x : W) (k : Int) (h : 1 ≤ k ∧ k ≤ 31) (w : World) :
    Calls Tryd.prog 54 #[.int .u32 (u x), .int .i64 k] w fun e w' => e = .returned (.int .u32 (u (rotr x k.toNat))) ∧ ∃ m, w' = w.drewN m := by
  have e := turnN x k.toNat (by omega) (by omega) w
  rwa [show ((k.toNat : Nat) : Int) = k by omega] at e

theorem keys_lit : U32 64 K = #[.int .u32 1116352408, .int .u32 1899447441, .int .u32 3049323471, .int .u32 3921009573, .int .u32 961987163, .int .u32 1508970993, .int .u32 2453635748, .int .u32 2870763221, .int .u32 3624381080, .int .u32 310598401, .int .u32 607225278, .int .u32 1426881987, .int .u32 1925078388, .int .u32 2162078206, .int .u32 2614888103, .int .u32 3248222580, .int .u32 3835390401, .int .u32 4022224774, .int .u32 264347078, .int .u32 604807628, .int .u32 770255983, .int .u32 1249150122, .int .u32 1555081692, .int .u32 1996064986, .int .u32 2554220882, .int .u32 2821834349, .int .u32 2952996808, .int .u32 3210313671, .int .u32 3336571891, .int .u32 3584528711, .int .u32 113926993, .int .u32 338241895, .int .u32 666307205, .int .u32 773529912, .int .u32 1294757372, .int .u32 1396182291, .int .u32 1695183700, .int .u32 1986661051, .int .u32 2177026350, .int .u32 2456956037, .int .u32 2730485921, .int .u32 2820302411, .int .u32 3259730800, .int .u32 3345764771, .int .u32 3516065817, .int .u32 3600352804, .int .u32 4094571909, .int .u32 275423344, .int .u32 430227734, .int .u32 506948616, .int .u32 659060556, .int .u32 883997877, .int .u32 958139571, .int .u32 1322822218, .int .u32 1537002063, .int .u32 1747873779, .int .u32 1955562222, .int .u32 2024104815, .int .u32 2227730452, .int .u32 2361852424, .int .u32 2428436474, .int .u32 2756734187, .int .u32 3204031479, .int .u32 3329325298] := by kernel_rfl
set_option maxRecDepth 100000 in
theorem keys_any (w : World) : Calls Tryd.prog 53 #[] w fun e w' => e = .returned (.slice (some ⟨w.heap.size, 0, none⟩) 64 64) ∧ w' = w.alloc (.cells (U32 64 K) 75) := by
  rw [keys_lit]
  go_enter Tryd.func53, Tryd.ntmps53
  go_wp2
  go_ret
  exact ⟨rfl, rfl⟩
end Go.Proofs.YtmifegjmmlipbaaDoor
