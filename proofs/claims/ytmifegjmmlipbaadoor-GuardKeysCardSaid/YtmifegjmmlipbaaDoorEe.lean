/-
  The guard's test of RFC 9001's key.
-/
import Derived.Test.YtmifegjmmlipbaaDoorEc
import Derived.Test.YtmifegjmmlipbaaDoorEd
namespace Go.Proofs.YtmifegjmmlipbaaDoor
open Go.RowKit Go.Rh Sha
attribute [local go_sem] S8_append S8_size

set_option maxRecDepth 100000 in
set_option maxHeartbeats 0 in
theorem guards_any {w : World} (hL : Laid w) : Calls Tryd.prog 38 #[] w fun e w' => e = .returned (.bool true) ∧ Below w.heap.size w w' := by
  have HS := Lib.hid (St.start hL)
  clear hL
  go_enter Tryd.func38, Tryd.ntmps38
  go_wp2_with fail
  refine (first_any HS.out dcid (by decide)).mono ?_
  rintro e w1 ⟨rfl, hs⟩
  have HS1 := Lib.hid hs
  obtain ⟨F, hF⟩ : ∃ F, F = firstC dcid := ⟨_, rfl⟩
  obtain ⟨F2, hF2⟩ : ∃ F, F = firstS dcid := ⟨_, rfl⟩
  rw [← hF, ← hF2, show argE (dcid.length ≤ 20) = 0 from rfl]
  have hr := rfc_key
  rw [← hF] at hr
  have HR := Lib.hid hr
  clear hs hF hF2 hr HS
  go_wp2_with fail
  refine (of_any HS1.out F (by rw [HR.out.1]; omega)).mono ?_
  rintro e w2 ⟨rfl, -, hs⟩
  have hk : keysV F = #[.string (S8 (gl F nKey 16)), .string (S8 (gl F nIv 12)), .string (S8 (gl F nHp 16))] := if_pos HR.out.1
  have hE : argE (F.length = 32) = 0 := if_pos HR.out.1
  rw [hk, hE]
  have HS2 := Lib.hid hs
  obtain ⟨X, hX⟩ : ∃ X, X = gl F nKey 16 := ⟨_, rfl⟩
  obtain ⟨Y, hY⟩ : ∃ X, X = gl F nIv 12 := ⟨_, rfl⟩
  obtain ⟨Z, hZ⟩ : ∃ X, X = gl F nHp 16 := ⟨_, rfl⟩
  have hXl : X.length = 16 := by rw [hX]; exact gl_length (by decide) (by decide)
  have hX0 : at_ X 0 = 31 := by rw [hX]; exact HR.out.2.1
  have hX1 : at_ X 15 = 45 := by rw [hX]; exact HR.out.2.2
  rw [← hX, ← hY, ← hZ]
  have ix0 : ∀ W : World, (Instr.index 9 (.string (S8 X)) (.int .i64 0)).run Tryd.prog W = .ok (.int .u8 31) W := fun W => by
    rw [run_index_S8 Tryd.underlying9 X .i64 0 (by omega) (by rw [hXl]; decide) W]; show Result.ok (Value.int .u8 (ub (at_ X 0))) W = _; rw [hX0]; rfl
  have ix1 : ∀ W : World, (Instr.index 9 (.string (S8 X)) (.int .i64 15)).run Tryd.prog W = .ok (.int .u8 45) W := fun W => by
    rw [run_index_S8 Tryd.underlying9 X .i64 15 (by omega) (by rw [hXl]; decide) W]; show Result.ok (Value.int .u8 (ub (at_ X 15))) W = _; rw [hX1]; rfl
  have hXI : (X.length : Int) = 16 := by omega
  clear hs hk hE hX hY hZ hXl hX0 hX1 HS1
  go_wp2
  go_ret
  exact ⟨rfl, (HS2.out.alloc _).below⟩
theorem st_guards {B : Nat} {w0 w : World} {xs : List (Nat × Option Nat × List UInt8)} (H : St B w0 w xs) : Calls Tryd.prog 38 #[] w fun e w' => e = .returned (.bool true) ∧ St B w0 w' xs := by
  refine (guards_any H.laid).mono ?_
  rintro e w' ⟨rfl, h⟩
  exact ⟨rfl, H.step h⟩
end Go.Proofs.YtmifegjmmlipbaaDoor
