/-
  The reference's Small and strings of one byte; its condition: a number below 256.
-/
import Derived.Test.YtikmghmapmlebaaK
import Derived.BigRegion
import Derived.Laws.Concat
namespace Go.Proofs.Ytikmghmapmlebaa
open Go.RowKit Go.Rh F255

theorem make31 (w : World) : (Instr.makeSlice 29 (.int .i64 31) (.int .i64 31)).run Try.prog w = .ok (.slice (some ⟨w.heap.size, 0, none⟩) 31 31) (w.alloc (.cells (vals .u8 31 fun _ => 0) 5)) := make29 31 (by decide) w

theorem convA (n : Nat) (W : World) (b : Nat) (h : W.heap[b]? = some (.cells #[.int .u8 (n : Int)] 5)) : (convert 29 9 (.slice (some ⟨b, 0, none⟩) 1 1)).run Try.prog W = .ok (.string (bstr (fun _ => n) 1)) W :=
  run_string_row (P := Try.prog) (off := 0) (n := 1) (g := fun _ => n) Try.underlying29 Try.underlying5 Try.underlying9 h 1 1 (by omega)
theorem convM (W : World) (b : Nat) (h : W.heap[b]? = some (.cells (vals .u8 31 fun _ => 0) 5)) : (convert 29 9 (.slice (some ⟨b, 0, none⟩) 31 31)).run Try.prog W = .ok (.string (bstr (fun _ => 0) 31)) W :=
  run_string_row (P := Try.prog) (off := 0) (n := 31) (g := fun _ => 0) Try.underlying29 Try.underlying5 Try.underlying9 h 31 31 (by omega)

theorem small_str (n : Nat) (hn : n < 256) : bstr (fun _ => n) 1 ++ bstr (fun _ => 0) 31 = le32 n := by
  apply ByteArray.ext
  rw [ByteArray.data_append]
  apply Array.ext'
  simp only [bstr, le32, Array.toList_append]
  show List.map (fun _ => UInt8.ofNat n) (List.range 1) ++ List.map (fun _ => UInt8.ofNat 0) (List.range 31) = List.map (fun j => UInt8.ofNat (n / 256 ^ j % 256)) (List.range 32)
  rw [show (32 : Nat) = 1 + 31 by decide, List.range_add, List.map_append]
  congr 1
  · show [UInt8.ofNat n] = [UInt8.ofNat (n / 256 ^ 0 % 256)]
    rw [Nat.pow_zero, Nat.div_one, Nat.mod_eq_of_lt hn]
  · rw [List.map_map]
    apply List.map_congr_left
    intro j _
    have : n / 256 ^ (1 + j) = 0 := Nat.div_eq_of_lt (Nat.lt_of_lt_of_le hn (by rw [Nat.pow_add]; exact Nat.le_mul_of_pos_right _ (Nat.pow_pos (by decide))))
    simp [this]

set_option maxRecDepth 100000 in
set_option maxHeartbeats 2000000 in
theorem small_any (n : Nat) (hn : n < 256) (w : World) :
    Calls Try.prog 26 #[.int .i64 n] w fun e w' => e = .returned (.string (le32 n)) ∧ Below w.heap.size w w' := by
  have hmk := make31
  have hS := Lib.hid (small_str n hn)
  have ew : IntKind.u8.wrap (n : Int) = n := IntWalk.u8_in _ (by omega)
  have a1 := convA n (w.alloc (.cells #[.int .u8 (n : Int)] 5)).drew w.heap.size (by rw [heap_drew]; exact heap_new' _ _ _ rfl)
  have a2 := convA n ((w.alloc (.cells (vals .u8 31 fun _ => 0) 5)).alloc (.cells #[.int .u8 (n : Int)] 5)).drew (w.heap.size + 1) (by rw [heap_drew]; exact heap_new' _ _ _ (by simp))
  have a3 := convA n ((w.alloc (.cells #[.int .u8 (n : Int)] 5)).alloc (.cells (vals .u8 31 fun _ => 0) 5)).drew w.heap.size (by rw [heap_drew, heap_old _ _ _ (by simp)]; exact heap_new' _ _ _ rfl)
  have m1 := convM (w.alloc (.cells (vals .u8 31 fun _ => 0) 5)).drew w.heap.size (by rw [heap_drew]; exact heap_new' _ _ _ rfl)
  have m2 := convM ((w.alloc (.cells #[.int .u8 (n : Int)] 5)).alloc (.cells (vals .u8 31 fun _ => 0) 5)).drew (w.heap.size + 1) (by rw [heap_drew]; exact heap_new' _ _ _ (by simp))
  have m3 := convM ((w.alloc (.cells (vals .u8 31 fun _ => 0) 5)).alloc (.cells #[.int .u8 (n : Int)] 5)).drew w.heap.size (by rw [heap_drew, heap_old _ _ _ (by simp)]; exact heap_new' _ _ _ rfl)
  have z1 : (bstr (fun _ => n) 1).size = 1 := bstr_size _ _
  have z2 : (bstr (fun _ => 0) 31).size = 31 := bstr_size _ _
  go_enter Try.func26, Try.ntmps26
  go_wp2
  go_region
  all_goals go_wp2
  all_goals go_ret
  all_goals exact ⟨by rw [← hS.out]; rfl, by go_grown⟩
end Go.Proofs.Ytikmghmapmlebaa
