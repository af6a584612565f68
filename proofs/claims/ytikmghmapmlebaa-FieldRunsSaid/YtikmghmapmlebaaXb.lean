/-
  curve's bit, and the document's: of a clamped number.
-/
import Derived.Test.YtikmghmapmlebaaXa
namespace Go.Proofs.Ytikmghmapmlebaa
open Go.RowKit Go.Rh F255

/-- A clamped number's bit. -/
def cbit (g : Nat → Nat) (i : Nat) : Bool := i == 254 || (decide (3 ≤ i) && g (i / 8) / 2 ^ (i % 8) % 2 == 1)

theorem and_one (x k : Nat) (hx : x < 256) : bits .and .u8 ((x : Int) / 2 ^ k) 1 = ((x / 2 ^ k % 2 : Nat) : Int) := by
  have h := and_u8 1 (by decide) (x / 2 ^ k) (Nat.lt_of_le_of_lt (Nat.div_le_self _ _) hx)
  simpa using h
set_option maxRecDepth 100000 in
theorem cbit_any (g : Nat → Nat) (hg : ∀ j, j < 32 → g j < 256) (i : Nat) (hi : i ≤ 254) (w : World) :
    Calls Try.prog 42 #[.agg (U8 g), .int .i64 i] w fun e w' => e = .returned (.bool (cbit g i)) ∧ Below w.heap.size w w' := by
  by_cases h1 : i = 254
  · subst h1
    go_enter Try.func42, Try.ntmps42
    go_wp2
    go_ret
    exact ⟨rfl, by go_grown⟩
  · have e1 : ((i : Int) == 254) = false := by simp; omega
    by_cases h2 : 3 ≤ i
    · have hc : ((w.alloc (.cells (U8 g) 22)).cell? ⟨w.heap.size, i / 8, none⟩) = some (.int .u8 (g (i / 8))) := cell_vals (heap_alloc_new w _) (by omega)
      have e2 : decide ((3 : Int) ≤ i) = true := by simp; omega
      have e3 : decide (3 ≤ i) = true := by simpa using h2
      go_enter Try.func42, Try.ntmps42
      go_wp2
      go_ret
      refine ⟨?_, by go_grown⟩
      show Ending.returned (.bool (bits .and .u8 (((g (i / 8) : Nat) : Int) / 2 ^ (i % 8)) 1 == 1)) = _
      rw [and_one _ _ (hg _ (by omega))]
      unfold cbit
      have e4 : (i == 254) = false := by simpa using h1
      rw [e4, e3, Bool.false_or, Bool.true_and]
      generalize g (i / 8) / 2 ^ (i % 8) = x
      congr 2
      rw [Bool.eq_iff_iff]
      simp
      omega
    · have e2 : decide ((3 : Int) ≤ i) = false := by simp; omega
      have e3 : decide (3 ≤ i) = false := by simpa using h2
      have hb : Hid (cbit g i = false) := by
        show _ = _
        unfold cbit
        rw [e3]
        simpa using h1
      rw [hb.out]
      go_enter Try.func42, Try.ntmps42
      go_wp2
      go_ret
      exact ⟨rfl, by go_grown⟩

set_option maxRecDepth 100000 in
theorem rbit_any (g : Nat → Nat) (hg : ∀ j, j < 32 → g j < 256) (i : Nat) (hi : i ≤ 254) (w : World) :
    Calls Try.prog 44 #[.string (bstr g 32), .int .i64 i] w fun e w' => e = .returned (.bool (cbit g i)) ∧ w = w' := by
  have e5 : ((i : Int) == 255) = false := by simp; omega
  by_cases h2 : 3 ≤ i
  · have e2 : decide ((i : Int) < 3) = false := by simp; omega
    have e3 : decide (3 ≤ i) = true := by simpa using h2
    have hx : ∀ w : World, (Instr.index 9 (.string (bstr g 32)) (.int .i64 ((i : Int) / 8))).run Try.prog w = .ok (.int .u8 (g (i / 8) : Int)) w := fun w => by
      have h := run_index_bstr (P := Try.prog) Try.underlying9 g 32 (i / 8) (by omega) (hg _ (by omega)) .i64 w
      rwa [Int.natCast_ediv] at h
    by_cases h1 : i = 254
    · subst h1
      go_enter Try.func44, Try.ntmps44
      go_wp2
      go_ret
      exact ⟨rfl, rfl⟩
    · have e1 : ((i : Int) == 254) = false := by simp; omega
      go_enter Try.func44, Try.ntmps44
      go_wp2
      go_ret
      refine ⟨?_, rfl⟩
      show Ending.returned (.bool ((((g (i / 8) : Nat) : Int) / 2 ^ (i % 8)).tmod 2 == 1)) = _
      have hq : ((g (i / 8) : Nat) : Int) / 2 ^ (i % 8) = ((g (i / 8) / 2 ^ (i % 8) : Nat) : Int) := by simp
      rw [hq]
      unfold cbit
      have e4 : (i == 254) = false := by simpa using h1
      rw [e4, e3, Bool.false_or, Bool.true_and]
      clear hq
      generalize g (i / 8) / 2 ^ (i % 8) = x
      rw [Int.tmod_eq_emod_of_nonneg (by omega)]
      congr 2
      rw [Bool.eq_iff_iff]
      simp
      omega
  · have e2 : decide ((i : Int) < 3) = true := by simp; omega
    have e3 : decide (3 ≤ i) = false := by simpa using h2
    have hb : Hid (cbit g i = false) := by
      show _ = _
      unfold cbit
      rw [e3]
      simp; omega
    rw [hb.out]
    go_enter Try.func44, Try.ntmps44
    go_wp2
    go_ret
    exact ⟨rfl, rfl⟩
end Go.Proofs.Ytikmghmapmlebaa
