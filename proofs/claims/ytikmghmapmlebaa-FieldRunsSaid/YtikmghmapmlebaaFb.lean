/-
  The program's Of: digits of 51 bits; its condition: 32 bytes.
-/
import Derived.Test.YtikmghmapmlebaaRows
import Derived.Test.YtikmghmapmlebaaG
import Derived.Test.YtikmghmapmlebaaN
import Derived.StillTailTactics
namespace Go.Proofs.Ytikmghmapmlebaa
open Go.RowKit Go.Rh F255

/-- Bytes, and an element's digits, as values. -/
def U8 (g : Nat → Nat) : Array Value := vals .u8 32 fun j => (g j : Int)
def Z5 : Array Value := #[.int .u64 0, .int .u64 0, .int .u64 0, .int .u64 0, .int .u64 0]
theorem sz26 : (Try.prog.info? 26).map (·.size) = some 5 := by kernel_rfl
theorem sz22 : (Try.prog.info? 22).map (·.size) = some 32 := by kernel_rfl
def U64 (f : Nat → Nat) : Array Value := vals .u64 5 fun j => (f j : Int)

theorem of_store (_n k _b : Nat) (g : Nat → Nat) (hg : ∀ j, j < 32 → g j < 256) (hk : k < 255) :
    bits .or .u64 ((chunk 51 (leN g 32) k (k / 51) : Nat) : Int) (IntKind.u64.wrap (IntKind.u64.wrap (bits .and .u8 ((g (k / 8) : Int) / 2 ^ (k % 8)) 1) * 2 ^ (k % 51))) =
      ((chunk 51 (leN g 32) (k + 1) (k / 51) : Nat) : Int) := by
  have e1 : ((g (k / 8) : Int) / 2 ^ (k % 8)) = ((g (k / 8) / 2 ^ (k % 8) : Nat) : Int) := by simp
  have hb := hg (k / 8) (by omega)
  have hb2 : g (k / 8) / 2 ^ (k % 8) < 2 ^ 8 := Nat.lt_of_le_of_lt (Nat.div_le_self _ _) hb
  have e2 := and_u8 1 (by decide) _ hb2
  rw [e1, show (1 : Int) = 2 ^ 1 - 1 by decide, e2, ← leN_bit hg k (by omega), chunk_here (by decide)]
  have hlt := chunk_lt (w := 51) (n := leN g 32) (i := k) (by decide)
  have hr : k % 51 < 51 := Nat.mod_lt _ (by decide)
  have hp : 2 ^ (k % 51) ≤ 2 ^ 50 := Nat.pow_le_pow_right (by decide) (by omega)
  have hp0 : 0 < 2 ^ (k % 51) := Nat.two_pow_pos _
  have hm : leN g 32 / 2 ^ k % 2 < 2 := Nat.mod_lt _ (by decide)
  generalize leN g 32 / 2 ^ k % 2 = c at *
  generalize chunk 51 (leN g 32) k (k / 51) = d at *
  have hc : c * 2 ^ (k % 51) ≤ 1 * 2 ^ (k % 51) := Nat.mul_le_mul_right _ (by omega)
  rw [wraps_u64 (c : Int) (by omega) (by omega)]
  have e3 : ((c : Int) * 2 ^ (k % 51)) = ((c * 2 ^ (k % 51) : Nat) : Int) := by simp
  rw [e3, wraps_u64 _ (by omega) (by omega)]
  exact or_u64 (k % 51) c d hlt (by omega) (by omega)

set_option maxRecDepth 100000 in
set_option maxHeartbeats 400000 in
theorem of_any (g : Nat → Nat) (hg : ∀ j, j < 32 → g j < 256) (w : World) :
    Calls Try.prog 14 #[.agg (U8 g)] w fun e w' => e = .returned (.agg (U64 (chunk 51 (leN g 32) 255))) ∧ Below w.heap.size w w' := by
  go_enter Try.func14, Try.ntmps14
  go_wp2
  go_loopw [5] (fun i wr => ∃ k : Nat, k ≤ 255 ∧ i = .int .i64 k ∧ wr.heap[w.heap.size]? = some (.cells (U8 g) 22 (0, 0)) ∧ wr.heap[w.heap.size + 1]? = some (.cells Z5 26 (0, 0)) ∧ wr.heap[w.heap.size + 2]? = some (.cells (U64 (chunk 51 (leN g 32) k)) 26 (0, 0)) ∧ Below w.heap.size w wr) (fun i _ => 255 - (intOf i).toNat)
  case atStart => 
    refine ⟨0, by omega, rfl, by ((simp only [heap_push, World.size_alloc, if_true]; repeat' split); all_goals (first | rfl | (exfalso; omega))), by ((simp only [heap_push, World.size_alloc, if_true]; repeat' split); all_goals (first | rfl | (exfalso; omega))), ?_, by go_grown⟩
    rw [show chunk 51 (leN g 32) 0 = fun _ => 0 from funext fun q => chunk_zero _ _ q]
    ((simp only [heap_push, World.size_alloc, if_true]; repeat' split); all_goals (first | rfl | (exfalso; omega)))
  case round =>
    obtain ⟨k, hk, rfl, hB, hC, hD, hbl⟩ := hrel
    by_cases hlt : k < 255
    · have e1 : IntKind.i64.wrap ((k : Int) / 51) = (k : Int) / 51 := IntWalk.i64_in _ (by omega)
      have e2 : IntKind.i64.wrap ((k : Int) / 8) = (k : Int) / 8 := IntWalk.i64_in _ (by omega)
      have t1 : ((k : Int) / 51).toNat = k / 51 := by omega
      have t2 : ((k : Int) / 8).toNat = k / 8 := by omega
      have b1 : 0 ≤ (k : Int) / 51 := by omega
      have b2 : (k : Int) / 51 < 5 := by omega
      have b3 : 0 ≤ (k : Int) / 8 := by omega
      have b4 : (k : Int) / 8 < 32 := by omega
      have b5 : 0 ≤ (k : Int) % 8 := by omega
      have b6 : 0 ≤ (k : Int) % 51 := by omega
      have c1 : wr.cell? ⟨w.heap.size + 1 + 1, k / 51, none⟩ = some (.int .u64 (chunk 51 (leN g 32) k (k / 51))) := cell_vals hD (by omega)
      have c2 : wr.cell? ⟨w.heap.size, k / 8, none⟩ = some (.int .u8 (g (k / 8))) := cell_vals hB (by omega)
      have m1 : (k : Int).tmod 8 = (k : Int) % 8 := Int.tmod_eq_emod_of_nonneg (by omega)
      have m2 : (k : Int).tmod 51 = (k : Int) % 51 := Int.tmod_eq_emod_of_nonneg (by omega)
      have f1 : wr.frozen? ⟨w.heap.size + 1 + 1, k / 51, none⟩ = false := frozen_of_row _ _ _ _ _ hD
      have HS := Lib.hid (of_store 0 k 0 g hg hlt)
      have HB := Lib.hid hB
      have HC := Lib.hid hC
      have HD := Lib.hid hD
      clear hB hC hD hg
      go_wp2
      go_still_tail 20, (by kernel_rfl)
      change wpList _ _ _ _ _ wr.drew
      go_wp2
      rw [HS.out]
      refine ⟨⟨k + 1, by omega, by go_num, ?_, ?_, ?_, ?_⟩, by simp [intOf]; omega⟩
      · rw [heap_drew, heap_set_other _ _ _ _ _ (by omega)]; exact HB.out
      · rw [heap_drew, heap_set_other _ _ _ _ _ (by omega)]; exact HC.out
      · rw [heap_drew, show w.heap.size + 1 + 1 = w.heap.size + 2 by omega]
        rw [heap_set_vals _ HD.out (by omega)]
        congr 2
        apply vals_congr
        intro j hj
        unfold upd
        split
        · next e => rw [e]
        · next e => rw [chunk_there (by decide) e]
      · exact (hbl.setCell (by show w.heap.size ≤ w.heap.size + 1 + 1; omega) _).drew
    · obtain rfl : k = 255 := by omega
      go_wp2_with (first | (refine wpList_load_row rfl 26 _ rfl (w.heap.size + 2) rfl 26 _ (0, 0) _ hD Try.underlying26 rfl (sz26.trans (by simp [U64])) ?_) | (refine wpList_store_row rfl 26 _ _ rfl (w.heap.size + 1) _ rfl rfl 26 _ hC (sz26.trans (by simp [U64])) (by simp [U64]; rfl) (vals_one _ _ _) ?_))
      refine bodyPost_ret (results_cell_row rfl _ _ _ 26 _ (0, 0) _ rfl (setRow_heap _ _ _ _ _ _ hC) Try.underlying26 rfl (sz26.trans (by simp [U64]))) rfl ⟨rfl, below_setRow hbl (by omega) _⟩
end Go.Proofs.Ytikmghmapmlebaa
