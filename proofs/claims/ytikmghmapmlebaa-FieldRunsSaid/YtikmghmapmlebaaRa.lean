/-
  The reference's digits and prime; their condition: bytes.
-/
import Derived.Test.YtikmghmapmlebaaRows
import Derived.Test.YtikmghmapmlebaaH
import Derived.Test.YtikmghmapmlebaaR
import Derived.StillTailTactics
import Derived.Deep.QuietTactic
import Derived.BigQuiet
namespace Go.Proofs.Ytikmghmapmlebaa
open Go.RowKit Go.Rh F255

theorem info3 : (Try.prog.info? 3).map (fun i => (i.zero, i.size, i.bytes)) = some (some (.int .i64 0), 1, 8) := by kernel_rfl
theorem info5 : (Try.prog.info? 5).map (fun i => (i.zero, i.size, i.bytes)) = some (some (.int .u8 0), 1, 1) := by kernel_rfl
theorem make56 (n : Nat) (h : n ≤ 1000) (w : World) : (Instr.makeSlice 56 (.int .i64 (n : Int)) (.int .i64 (n : Int))).run Try.prog w = .ok (.slice (some ⟨w.heap.size, 0, none⟩) n n) (w.alloc (.cells (vals .i64 n fun _ => 0) 3)) :=
  run_make_int Try.underlying56 info3 n (by omega) (by omega) w
theorem make29 (n : Nat) (h : n ≤ 1000) (w : World) : (Instr.makeSlice 29 (.int .i64 (n : Int)) (.int .i64 (n : Int))).run Try.prog w = .ok (.slice (some ⟨w.heap.size, 0, none⟩) n n) (w.alloc (.cells (vals .u8 n fun _ => 0) 5)) :=
  run_make_int Try.underlying29 info5 n (by omega) (by omega) w

theorem make56' (w : World) : (Instr.makeSlice 56 (.int .i64 32) (.int .i64 32)).run Try.prog w = .ok (.slice (some ⟨w.heap.size, 0, none⟩) 32 32) (w.alloc (.cells (vals .i64 32 fun _ => 0) 3)) := make56 32 (by decide) w
theorem make29' (w : World) : (Instr.makeSlice 29 (.int .i64 32) (.int .i64 32)).run Try.prog w = .ok (.slice (some ⟨w.heap.size, 0, none⟩) 32 32) (w.alloc (.cells (vals .u8 32 fun _ => 0) 5)) := make29 32 (by decide) w

/-- The first k of a row. -/
def firstK (f : Nat → Int) (k j : Nat) : Int := if j < k then f j else 0
theorem firstK_upd (f : Nat → Int) (k j : Nat) : upd (firstK f k) k (f k) j = firstK f (k + 1) j := by
  unfold upd firstK
  by_cases e : j = k
  · subst e; rw [if_pos rfl, if_pos (by omega)]
  · rw [if_neg e]
    by_cases e2 : j < k
    · rw [if_pos e2, if_pos (by omega)]
    · rw [if_neg e2, if_neg (by omega)]
theorem firstK_zero (f : Nat → Int) : firstK f 0 = fun _ => 0 := funext fun j => by simp [firstK]
theorem firstK_all (k : IntKind) (f : Nat → Int) (n : Nat) : vals k n (firstK f n) = vals k n f := vals_congr k n fun j hj => by simp [firstK, hj]

set_option maxRecDepth 100000 in
set_option maxHeartbeats 400000 in
theorem digits_any (g : Nat → Nat) (hg : ∀ j, j < 32 → g j < 256) (w : World) :
    Calls Try.prog 34 #[.string (bstr g 32)] w fun e w' => e = .returned (.slice (some ⟨w.heap.size, 0, none⟩) 32 32) ∧ w'.heap[w.heap.size]? = some (.cells (vals .i64 32 fun j => (g j : Int)) 3 (0, 0)) ∧ Below w.heap.size w w' := by
  have HG := Lib.hid hg
  clear hg
  have hmk := make56' 
  go_enter Try.func34, Try.ntmps34
  go_wp2
  go_loopw [4] (fun i wr => ∃ k : Nat, k ≤ 32 ∧ i = .int .i64 k ∧ wr.heap[w.heap.size]? = some (.cells (vals .i64 32 (firstK (fun j => (g j : Int)) k)) 3 (0, 0)) ∧ Below w.heap.size w wr) (fun i _ => 32 - (intOf i).toNat)
  case atStart =>
    refine ⟨0, by omega, rfl, ?_, by go_grown⟩
    rw [firstK_zero, heap_new' _ _ _ rfl]
  case round =>
    obtain ⟨k, hk, rfl, l0, lb⟩ := hrel
    by_cases hlt : k < 32
    · have b0 := HG.out k hlt
      have i0 := fun w => run_index_bstr (P := Try.prog) Try.underlying9 g 32 k hlt b0 .i64 w
      have c0 : wr.cell? ⟨w.heap.size, k, none⟩ = some (.int .i64 (firstK (fun j => (g j : Int)) k k)) := cell_vals l0 hlt
      have f0 : wr.frozen? ⟨w.heap.size, k, none⟩ = false := frozen_of_row _ _ _ _ _ l0
      have L0 := Lib.hid l0
      clear l0
      go_wp2
      go_roundw
      case measure => simp [intOf]; omega
      refine ⟨k + 1, by omega, by go_num, ?_, lb.setCell (Nat.le_refl _) _⟩
      rw [heap_set_vals (n := 32) _ L0.out hlt]
      exact congrArg (fun x => some (Obj.cells x 3 (0, 0))) (vals_congr _ _ fun j _ => firstK_upd _ k j)
    · obtain rfl : k = 32 := by omega
      rw [firstK_all] at l0
      have L0 := Lib.hid l0
      clear l0
      go_wp2
      go_ret
      exact ⟨rfl, L0.out, lb⟩

set_option maxRecDepth 100000 in
set_option maxHeartbeats 400000 in
theorem prime_any (w : World) :
    Calls Try.prog 38 #[] w fun e w' => e = .returned (.slice (some ⟨w.heap.size, 0, none⟩) 32 32) ∧ w'.heap[w.heap.size]? = some (.cells (vals .i64 32 pD) 3 (0, 0)) ∧ Below w.heap.size w w' := by
  have hmk := make56' 
  go_enter Try.func38, Try.ntmps38
  go_wp2
  go_loopw [2] (fun i wr => ∃ k : Nat, k ≤ 32 ∧ i = .int .i64 k ∧ wr.heap[w.heap.size]? = some (.cells (vals .i64 32 (firstK (fun _ => 255) k)) 3 (0, 0)) ∧ Below w.heap.size w wr) (fun i _ => 32 - (intOf i).toNat)
  case atStart =>
    refine ⟨0, by omega, rfl, ?_, by go_grown⟩
    rw [firstK_zero, heap_new' _ _ _ rfl]
  case round =>
    obtain ⟨k, hk, rfl, l0, lb⟩ := hrel
    by_cases hlt : k < 32
    · have c0 : wr.cell? ⟨w.heap.size, k, none⟩ = some (.int .i64 (firstK (fun _ => 255) k k)) := cell_vals l0 hlt
      have f0 : wr.frozen? ⟨w.heap.size, k, none⟩ = false := frozen_of_row _ _ _ _ _ l0
      have L0 := Lib.hid l0
      clear l0
      go_wp2
      go_roundw
      case measure => simp [intOf]; omega
      refine ⟨k + 1, by omega, by go_num, ?_, lb.setCell (Nat.le_refl _) _⟩
      rw [heap_set_vals (n := 32) _ L0.out hlt]
      exact congrArg (fun x => some (Obj.cells x 3 (0, 0))) (vals_congr _ _ fun j _ => firstK_upd (fun _ => 255) k j)
    · obtain rfl : k = 32 := by omega
      rw [firstK_all] at l0
      have c0 : wr.cell? ⟨w.heap.size, 0, none⟩ = some (.int .i64 255) := cell_vals l0 (by decide)
      have c1 : wr.cell? ⟨w.heap.size, 31, none⟩ = some (.int .i64 255) := cell_vals l0 (by decide)
      have f0 : wr.frozen? ⟨w.heap.size, 0, none⟩ = false := frozen_of_row _ _ _ _ _ l0
      have f1 : wr.frozen? ⟨w.heap.size, 31, none⟩ = false := frozen_of_row _ _ _ _ _ l0
      have L0 := Lib.hid l0
      clear l0
      go_wp2
      go_ret
      refine ⟨rfl, ?_, (lb.setCell (Nat.le_refl _) _).setCell (Nat.le_refl _) _⟩
      rw [heap_set_vals (n := 32) _ (heap_set_vals (n := 32) _ L0.out (by decide)) (by decide)]
      refine congrArg (fun x => some (Obj.cells x 3 (0, 0))) (vals_congr _ _ fun j _ => ?_)
      unfold upd pD
      by_cases e : j = 31
      · subst e; rfl
      · rw [if_neg e]
        by_cases e2 : j = 0
        · rw [if_pos e2, if_pos e2]
        · rw [if_neg e2, if_neg e2, if_neg e]

theorem shr8 (x _o : Int) : IntKind.i64.wrap (x / 256) = IntKind.i64.wrap (x / 256) := rfl

set_option maxRecDepth 100000 in
set_option maxHeartbeats 1000000 in
theorem refcarry_any (f : Nat → Int) (N : Nat) (hN : 32 ≤ N) (cap g : Nat) (hf : ∀ j, j < 32 → -1099511627776 ≤ f j ∧ f j ≤ 1099511627776) (h0 : 0 ≤ NI f 32) (h1 : NI f 32 < 8589934592 * T256)
    (w : World) (hw : w.heap[g]? = some (.cells (vals .i64 N f) 3 (0, 0))) :
    Calls Try.prog 45 #[.slice (some ⟨g, 0, none⟩) 32 cap] w fun e w' => e = .returned (.tuple #[]) ∧ w'.heap[g]? = some (.cells (vals .i64 N fun j => if j < 32 then passR f 6 j else f j) 3 (0, 0)) ∧ w.grownBy w' (some g) := by
  have HP := Lib.hid (passes h0 h1)
  have HF := Lib.hid hf
  clear hf h0 h1
  have hsm : ∀ r, r ≤ 6 → ∀ j, j < 32 → -1099511627776 ≤ passR f r j ∧ passR f r j ≤ 1099511627776 := by
    intro r _ j hj
    match r with
    | 0 => exact HF.out j hj
    | r + 1 => have := HP.out.2.2 (r + 1) (by omega) j; omega
  have HS := Lib.hid hsm
  clear hsm
  go_enter Try.func45, Try.ntmps45
  go_wp2
  go_loopw [2] (fun i wr => ∃ r : Nat, r ≤ 6 ∧ i = .int .i64 r ∧ wr.heap[g]? = some (.cells (vals .i64 N fun j => if j < 32 then passR f r j else f j) 3 (0, 0)) ∧ w.grownBy wr (some g)) (fun i _ => 6 - (intOf i).toNat)
  case atStart => 
    refine ⟨0, by omega, rfl, ?_, ⟨rfl, rfl, rfl, Nat.le_refl _, fun _ _ _ => rfl⟩⟩
    rw [hw]
    exact congrArg (fun x => some (Obj.cells x 3 (0, 0))) (vals_congr _ _ fun j _ => by show f j = if j < 32 then f j else f j; split <;> rfl)
  case round =>
    clear hw
    obtain ⟨r, hr, rfl, l0, lb⟩ := hrel
    by_cases hlt : r < 6
    · obtain ⟨h, hh⟩ : ∃ h, h = passR f r := ⟨_, rfl⟩
      have hb := HS.out r (by omega)
      rw [← hh] at hb l0
      have HB := Lib.hid hb
      have HO := Lib.hid (pass_small hb)
      have HH := Lib.hid hh
      have L0 := Lib.hid l0
      clear hb hh l0
      go_wp2
      obtain ⟨wo, hwo⟩ : ∃ wo : World, wo = wr := ⟨_, rfl⟩
      subst hwo
      go_loopw [3, 4] (fun o i wr => ∃ k : Nat, k ≤ 32 ∧ i = .int .i64 k ∧ o = .int .i64 (ovf h k) ∧ wr.heap[g]? = some (.cells (vals .i64 N fun j => if j < 32 then (if j < k then dgf h j else h j) else f j) 3 (0, 0)) ∧ w.grownBy wr (some g)) (fun _ i _ => 32 - (intOf i).toNat)
      case atStart => exact ⟨0, by omega, rfl, rfl, L0.out, lb⟩
      case round =>
        clear L0 lb
        obtain ⟨k, hk, rfl, rfl, l0, lb⟩ := hrel
        by_cases hk32 : k < 32
        · obtain ⟨x, hx⟩ : ∃ x, x = h k := ⟨_, rfl⟩
          obtain ⟨o, ho⟩ : ∃ o, o = ovf h k := ⟨_, rfl⟩
          have bx := HB.out k hk32
          have bo := HO.out k (by omega)
          rw [← ho]
          rw [← hx] at bx
          rw [← ho] at bo
          have c0 : wr.cell? ⟨g, k, none⟩ = some (.int .i64 x) := by rw [hx, cell_vals l0 (by omega), if_pos hk32, if_neg (by omega)]
          have f0 : wr.frozen? ⟨g, k, none⟩ = false := frozen_of_row _ _ _ _ _ l0
          have HX := Lib.hid hx
          have HOO := Lib.hid ho
          have L0 := Lib.hid l0
          clear hx ho l0
          go_wp2
          refine ⟨⟨k + 1, by omega, by go_num, ?_, ?_, grown_set (grown_set lb _ _) _ _⟩, by simp [intOf]; omega⟩
          · rw [ovf, ← HX.out, ← HOO.out]
          · rw [heap_set_vals (f := upd (fun j => if j < 32 then (if j < k then dgf h j else h j) else f j) k (x + o)) (n := N) _ (heap_set_vals (n := N) _ L0.out (by omega)) (by omega)]
            refine congrArg (fun x => some (Obj.cells x 3 (0, 0))) (vals_congr _ _ fun j hj => ?_)
            unfold upd
            dsimp only
            by_cases e : j = k
            · subst e
              rw [if_pos rfl, if_pos hk32, if_pos (by omega), dgf, ← HX.out, ← HOO.out]
              omega
            · rw [if_neg e, if_neg e]
              by_cases e2 : j < k
              · rw [if_pos e2, if_pos (show j < k + 1 by omega)]
              · rw [if_neg e2, if_neg (show ¬ j < k + 1 by omega)]
        · obtain rfl : k = 32 := by omega
          obtain ⟨x, hx⟩ : ∃ x, x = dgf h 0 := ⟨_, rfl⟩
          obtain ⟨o, ho⟩ : ∃ o, o = ovf h 32 := ⟨_, rfl⟩
          have bx := dgf_bd h 0
          have bo := HO.out 32 (by omega)
          rw [← ho]
          rw [← hx] at bx
          rw [← ho] at bo
          have c0 : wr.cell? ⟨g, 0, none⟩ = some (.int .i64 x) := by rw [hx, cell_vals l0 (by omega)]; rfl
          have f0 : wr.frozen? ⟨g, 0, none⟩ = false := frozen_of_row _ _ _ _ _ l0
          have HX := Lib.hid hx
          have HOO := Lib.hid ho
          have L0 := Lib.hid l0
          clear hx ho l0
          go_wp2
          go_roundw
          case measure => simp [intOf]; omega
          refine ⟨r + 1, by omega, by go_num, ?_, grown_set lb _ _⟩
          rw [heap_set_vals (n := N) _ L0.out (by omega)]
          refine congrArg (fun x => some (Obj.cells x 3 (0, 0))) (vals_congr _ _ fun j hj => ?_)
          unfold upd
          dsimp only
          by_cases e : j = 0
          · subst e
            rw [if_pos rfl, if_pos (by omega), passR, passF, if_pos rfl, ← HH.out, ← HX.out, ← HOO.out]
          · rw [if_neg e]
            by_cases e2 : j < 32
            · rw [if_pos e2, if_pos e2, if_pos e2, passR, passF, if_neg e, ← HH.out, Int.add_zero]
            · rw [if_neg e2, if_neg e2]
    · obtain rfl : r = 6 := by omega
      have L0 := Lib.hid l0
      clear l0
      go_wp2
      go_returns
      exact ⟨rfl, L0.out, lb⟩
end Go.Proofs.Ytikmghmapmlebaa
