/-
  The reference's Of, Add and Sub; conditions: numbers below 2^256.
-/
import Derived.Test.YtikmghmapmlebaaRb
namespace Go.Proofs.Ytikmghmapmlebaa
open Go.RowKit Go.Rh F255

theorem NI_nat (g : Nat → Nat) : ∀ n, NI (fun j => (g j : Int)) n = ((leN g n : Nat) : Int)
  | 0 => rfl
  | n + 1 => by simp only [NI, leN]; rw [NI_nat g n]; simp
theorem leN_div (m : Nat) : ∀ n, leN (fun j => m / 256 ^ j % 256) n = m % 256 ^ n
  | 0 => by simp [leN, Nat.mod_one]
  | n + 1 => by
    simp only [leN]
    rw [leN_div m n, Nat.pow_succ, Nat.mod_mul, Nat.mul_comm (256 ^ n)]
theorem digit_lt (m j : Nat) : m / 256 ^ j % 256 < 256 := Nat.mod_lt _ (by decide)
def Two256 : Nat := 115792089237316195423570985008687907853269984665640564039457584007913129639936
theorem NI_le {m : Nat} (h : m < Two256) : NI (fun j => ((m / 256 ^ j % 256 : Nat) : Int)) 32 = (m : Int) := by
  rw [NI_nat (fun j => m / 256 ^ j % 256), leN_div]
  congr 1
  exact Nat.mod_eq_of_lt h
def pN : Nat := 57896044618658097711785492504343953926634992332820282019728792003956564819949
theorem toNat_mod (x : Nat) : ((x : Int) % P25).toNat = x % pN := by
  unfold P25 pN; omega

set_option maxRecDepth 100000 in
set_option maxHeartbeats 400000 in
theorem refOf_any (g : Nat → Nat) (hg : ∀ j, j < 32 → g j < 256) (w : World) :
    Calls Try.prog 15 #[.string (bstr g 32)] w fun e w' => e = .returned (.string (le32 (leN g 32 % 57896044618658097711785492504343953926634992332820282019728792003956564819968 % pN))) ∧ Below w.heap.size w w' := by
  have HG := Lib.hid hg
  have hl : leN g 31 < 452312848583266388373324160190187140051835877600158453279131187530910662656 := by
    have := leN_lt (n := 31) fun j hj => hg j (by omega)
    exact this
  have hn : NI (fun j => if j = 31 then (g 31 : Int) % 128 else (g j : Int)) 32 = ((leN g 32 % 57896044618658097711785492504343953926634992332820282019728792003956564819968 : Nat) : Int) := by
    have e1 : NI (fun j => if j = 31 then (g 31 : Int) % 128 else (g j : Int)) 31 = ((leN g 31 : Nat) : Int) := by
      rw [← NI_nat g 31]
      exact NI_congr fun j hj => by rw [if_neg (by omega)]
    show NI (fun j => if j = 31 then (g 31 : Int) % 128 else (g j : Int)) 31 + ((g 31 : Int) % 128) * 452312848583266388373324160190187140051835877600158453279131187530910662656 = (((leN g 31 + g 31 * 452312848583266388373324160190187140051835877600158453279131187530910662656) % 57896044618658097711785492504343953926634992332820282019728792003956564819968 : Nat) : Int)
    rw [e1]
    have := hg 31 (by decide)
    omega
  have HN := Lib.hid hn
  have b31 := hg 31 (by decide)
  clear hg hl hn
  have HD := Lib.hid (digits_any g HG.out w)
  go_enter Try.func15, Try.ntmps15
  go_wp2_with fail
  refine HD.out.mono ?_
  rintro e w1 ⟨rfl, l0, b1⟩
  have c0 : w1.cell? ⟨w.heap.size, 31, none⟩ = some (.int .i64 (g 31)) := cell_vals l0 (by decide)
  have f0 : w1.frozen? ⟨w.heap.size, 31, none⟩ = false := frozen_of_row _ _ _ _ _ l0
  have m1 : (g 31 : Int).tmod 128 = (g 31 : Int) % 128 := Int.tmod_eq_emod_of_nonneg (by omega)
  have L0 := Lib.hid l0
  have B1 := Lib.hid b1
  clear l0 b1
  go_wp2_with fail
  have l1 : (w1.setCell ⟨w.heap.size, 31, none⟩ (.int .i64 ((g 31 : Int) % 128))).heap[w.heap.size]? = some (.cells (vals .i64 32 fun j => if j = 31 then (g 31 : Int) % 128 else (g j : Int)) 3 (0, 0)) := heap_set_vals (n := 32) _ L0.out (by decide)
  refine (below_any _ 32 (by omega) 32 w.heap.size (fun j hj => ?_) (by rw [HN.out]; omega) (by rw [HN.out]; unfold T256; omega) _ l1).mono ?_
  · have := HG.out j hj
    split <;> omega
  rintro e w2 ⟨rfl, g2⟩
  go_wp2
  go_ret
  refine ⟨by rw [HN.out, toNat_mod]; rfl, ?_⟩
  have b2 := B1.out.setCell (p := ⟨w.heap.size, 31, none⟩) (Nat.le_refl _) (.int .i64 ((g 31 : Int) % 128))
  exact b2.grown g2 b2.size (fun k hk => by cases hk; exact Nat.le_refl _)

set_option maxRecDepth 100000 in
set_option maxHeartbeats 400000 in
theorem refAdd_any (a b : Nat) (ha : a < Two256) (hb : b < Two256) (w : World) :
    Calls Try.prog 19 #[.string (le32 a), .string (le32 b)] w fun e w' => e = .returned (.string (le32 ((a + b) % pN))) ∧ Below w.heap.size w w' := by
  obtain ⟨x, hx⟩ : ∃ x : Nat → Nat, x = fun j => a / 256 ^ j % 256 := ⟨_, rfl⟩
  obtain ⟨y, hy⟩ : ∃ y : Nat → Nat, y = fun j => b / 256 ^ j % 256 := ⟨_, rfl⟩
  have hxb : ∀ j, j < 32 → x j < 256 := fun j _ => by rw [hx]; exact digit_lt a j
  have hyb : ∀ j, j < 32 → y j < 256 := fun j _ => by rw [hy]; exact digit_lt b j
  have hn : NI (fun j => (x j : Int) + (y j : Int)) 32 = ((a + b : Nat) : Int) := by
    rw [NI_add, hx, hy, NI_le ha, NI_le hb]; simp
  have HN := Lib.hid hn
  have hab : a + b < 2 * Two256 := by omega
  have HAB := Lib.hid hab
  rw [show le32 a = bstr x 32 by rw [hx]; rfl, show le32 b = bstr y 32 by rw [hy]; rfl]
  have D1 := Lib.hid (digits_any x hxb w)
  have D2 := Lib.hid (digits_any y hyb)
  have HX := Lib.hid hxb
  have HY := Lib.hid hyb
  clear hx hy hn hxb hyb ha hb hab
  go_enter Try.func19, Try.ntmps19
  go_wp2_with fail
  refine D1.out.mono ?_
  rintro e w1 ⟨rfl, l0, b1⟩
  have L0 := Lib.hid l0
  have B1 := Lib.hid b1
  clear l0 b1
  go_wp2_with fail
  refine (D2.out _).mono ?_
  rintro e w2 ⟨rfl, l1, b2⟩
  have l0 := (b2.block w.heap.size (heap_lt L0.out)).trans L0.out
  have hlt : w.heap.size < w1.heap.size := heap_lt L0.out
  have bb : Below w.heap.size w w2 := B1.out.trans (b2.mono (by omega))
  obtain ⟨R, hR⟩ : ∃ R, R = w1.heap.size := ⟨_, rfl⟩
  rw [← hR] at l1 hlt
  rw [← hR]
  have L0 := Lib.hid l0
  have L1 := Lib.hid l1
  clear l0 l1 b2 B1 hR
  go_wp2
  go_loopw [7] (fun i wr => ∃ k : Nat, k ≤ 32 ∧ i = .int .i64 k ∧ wr.heap[w.heap.size]? = some (.cells (vals .i64 32 fun j => if j < k then (x j : Int) + (y j : Int) else (x j : Int)) 3 (0, 0)) ∧ wr.heap[R]? = some (.cells (vals .i64 32 fun j => (y j : Int)) 3 (0, 0)) ∧ Below w.heap.size w wr) (fun i _ => 32 - (intOf i).toNat)
  case atStart => exact ⟨0, by omega, rfl, L0.out, L1.out, bb⟩
  case round =>
    clear L0 L1 bb
    obtain ⟨k, hk, rfl, l0, l1, lb⟩ := hrel
    by_cases hk32 : k < 32
    · have bx := HX.out k hk32
      have bY := HY.out k hk32
      have c0 : wr.cell? ⟨w.heap.size, k, none⟩ = some (.int .i64 (x k)) := by rw [cell_vals l0 hk32, if_neg (by omega)]
      have c1 : wr.cell? ⟨R, k, none⟩ = some (.int .i64 (y k)) := cell_vals l1 hk32
      have f0 : wr.frozen? ⟨w.heap.size, k, none⟩ = false := frozen_of_row _ _ _ _ _ l0
      have ew : IntKind.i64.wrap ((x k : Int) + (y k : Int)) = (x k : Int) + (y k : Int) := IntWalk.i64_in _ (by omega)
      have L0 := Lib.hid l0
      have L1 := Lib.hid l1
      clear l0 l1
      go_wp2
      go_still_tail 12, (by kernel_rfl)
      change wpList _ _ _ _ _ wr.drew
      go_wp2
      go_roundw
      case measure => simp [intOf]; omega
      refine ⟨k + 1, by omega, by go_num, ?_, ?_, (lb.setCell (Nat.le_refl _) _).drew⟩
      · rw [heap_drew, heap_set_vals (n := 32) _ L0.out hk32]
        refine congrArg (fun x => some (Obj.cells x 3 (0, 0))) (vals_congr _ _ fun j hj => ?_)
        unfold upd
        dsimp only
        by_cases e : j = k
        · subst e; rw [if_pos rfl, if_pos (by omega)]
        · rw [if_neg e]
          by_cases e2 : j < k
          · rw [if_pos e2, if_pos (show j < k + 1 by omega)]
          · rw [if_neg e2, if_neg (show ¬ j < k + 1 by omega)]
      · rw [heap_drew, heap_set_other _ _ _ _ _ (by omega)]; exact L1.out
    · obtain rfl : k = 32 := by omega
      have l2 : wr.heap[w.heap.size]? = some (.cells (vals .i64 32 fun j => (x j : Int) + (y j : Int)) 3 (0, 0)) := l0.trans (congrArg (fun x => some (Obj.cells x 3 (0, 0))) (vals_congr _ _ fun j hj => if_pos hj))
      have hs := lb.size
      have HB := Lib.hid (below_any _ 32 (by omega) 32 w.heap.size (fun j hj => by have := HX.out j hj; have := HY.out j hj; omega) (by rw [HN.out]; omega) (by rw [HN.out]; have := HAB.out; unfold Two256 at this; unfold T256; omega) _ l2)
      clear l0 l1 l2
      go_wp2_with fail
      refine HB.out.mono ?_
      rintro e w3 ⟨rfl, g2⟩
      go_wp2
      go_ret
      exact ⟨by rw [HN.out, toNat_mod]; rfl, lb.grown g2 hs (fun k hk => by cases hk; exact Nat.le_refl _)⟩

theorem NI_sub (f g : Nat → Int) : ∀ n, NI (fun j => f j - g j) n = NI f n - NI g n
  | 0 => rfl
  | n + 1 => by simp only [NI]; rw [NI_sub f g n, Int.sub_mul]; omega

set_option maxRecDepth 100000 in
set_option maxHeartbeats 800000 in
theorem refSub_any (a b : Nat) (ha : a < Two256) (hb : b ≤ pN) (w : World) :
    Calls Try.prog 21 #[.string (le32 a), .string (le32 b)] w fun e w' => e = .returned (.string (le32 ((a + pN - b) % pN))) ∧ Below w.heap.size w w' := by
  have hb2 : b < Two256 := by unfold pN at hb; unfold Two256; omega
  obtain ⟨x, hx⟩ : ∃ x : Nat → Nat, x = fun j => a / 256 ^ j % 256 := ⟨_, rfl⟩
  obtain ⟨y, hy⟩ : ∃ y : Nat → Nat, y = fun j => b / 256 ^ j % 256 := ⟨_, rfl⟩
  have hxb : ∀ j, j < 32 → x j < 256 := fun j _ => by rw [hx]; exact digit_lt a j
  have hyb : ∀ j, j < 32 → y j < 256 := fun j _ => by rw [hy]; exact digit_lt b j
  have hn : NI (fun j => (x j : Int) + pD j - (y j : Int)) 32 = ((a + pN - b : Nat) : Int) := by
    rw [NI_sub (fun j => (x j : Int) + pD j), NI_add, hx, hy, NI_le ha, NI_le hb2, NI_pD]
    unfold P25 pN at *
    omega
  have HN := Lib.hid hn
  have hab : a + pN - b < 2 * Two256 := by unfold pN Two256 at *; omega
  have HAB := Lib.hid hab
  rw [show le32 a = bstr x 32 by rw [hx]; rfl, show le32 b = bstr y 32 by rw [hy]; rfl]
  have D1 := Lib.hid (digits_any x hxb w)
  have D2 := Lib.hid (digits_any y hyb)
  have HX := Lib.hid hxb
  have HY := Lib.hid hyb
  clear hx hy hn hxb hyb ha hb hab hb2
  go_enter Try.func21, Try.ntmps21
  go_wp2_with fail
  refine D1.out.mono ?_
  rintro e w1 ⟨rfl, l0, b1⟩
  have L0 := Lib.hid l0
  have B1 := Lib.hid b1
  clear l0 b1
  go_wp2_with fail
  refine (D2.out _).mono ?_
  rintro e w2 ⟨rfl, l1, b2⟩
  have l0 := (b2.block w.heap.size (heap_lt L0.out)).trans L0.out
  have hlt : w.heap.size < w1.heap.size := heap_lt L0.out
  have bb : Below w.heap.size w w2 := B1.out.trans (b2.mono (by omega))
  obtain ⟨R, hR⟩ : ∃ R, R = w1.heap.size := ⟨_, rfl⟩
  rw [← hR] at l1 hlt
  rw [← hR]
  have L0 := Lib.hid l0
  have L1 := Lib.hid l1
  have BB := Lib.hid bb
  clear l0 l1 b2 B1 hR bb
  go_wp2_with fail
  refine (prime_any _).mono ?_
  rintro e w3 ⟨rfl, l2, b3⟩
  have l0 := (b3.block w.heap.size (heap_lt L0.out)).trans L0.out
  have l1 := (b3.block R (heap_lt L1.out)).trans L1.out
  have hlt2 : R < w2.heap.size := heap_lt L1.out
  have bb : Below w.heap.size w w3 := BB.out.trans (b3.mono (by omega))
  obtain ⟨Q, hQ⟩ : ∃ Q, Q = w2.heap.size := ⟨_, rfl⟩
  rw [← hQ] at l2 hlt2
  rw [← hQ]
  have L0 := Lib.hid l0
  have L1 := Lib.hid l1
  have L2 := Lib.hid l2
  clear l0 l1 l2 b3 BB hQ
  go_wp2
  go_loopw [8] (fun i wr => ∃ k : Nat, k ≤ 32 ∧ i = .int .i64 k ∧ wr.heap[w.heap.size]? = some (.cells (vals .i64 32 fun j => if j < k then (x j : Int) + pD j - (y j : Int) else (x j : Int)) 3 (0, 0)) ∧ wr.heap[R]? = some (.cells (vals .i64 32 fun j => (y j : Int)) 3 (0, 0)) ∧ wr.heap[Q]? = some (.cells (vals .i64 32 pD) 3 (0, 0)) ∧ Below w.heap.size w wr) (fun i _ => 32 - (intOf i).toNat)
  case atStart => exact ⟨0, by omega, rfl, L0.out, L1.out, L2.out, bb⟩
  case round =>
    clear L0 L1 L2 bb
    obtain ⟨k, hk, rfl, l0, l1, l2, lb⟩ := hrel
    by_cases hk32 : k < 32
    · have bx := HX.out k hk32
      have bY := HY.out k hk32
      have bp := pD_bd k
      have c0 : wr.cell? ⟨w.heap.size, k, none⟩ = some (.int .i64 (x k)) := by rw [cell_vals l0 hk32, if_neg (by omega)]
      have c1 : wr.cell? ⟨R, k, none⟩ = some (.int .i64 (y k)) := cell_vals l1 hk32
      have c2 : wr.cell? ⟨Q, k, none⟩ = some (.int .i64 (pD k)) := cell_vals l2 hk32
      have f0 : wr.frozen? ⟨w.heap.size, k, none⟩ = false := frozen_of_row _ _ _ _ _ l0
      have ew : IntKind.i64.wrap ((x k : Int) + pD k) = (x k : Int) + pD k := IntWalk.i64_in _ (by omega)
      have ew2 : IntKind.i64.wrap ((x k : Int) + pD k - (y k : Int)) = (x k : Int) + pD k - (y k : Int) := IntWalk.i64_in _ (by omega)
      have L0 := Lib.hid l0
      have L1 := Lib.hid l1
      have L2 := Lib.hid l2
      clear l0 l1 l2
      go_wp2
      go_still_tail 17, (by kernel_rfl)
      change wpList _ _ _ _ _ wr.drew
      go_wp2
      go_roundw
      case measure => simp [intOf]; omega
      refine ⟨k + 1, by omega, by go_num, ?_, ?_, ?_, (lb.setCell (Nat.le_refl _) _).drew⟩
      · rw [heap_drew, heap_set_vals (n := 32) _ L0.out hk32]
        refine congrArg (fun x => some (Obj.cells x 3 (0, 0))) (vals_congr _ _ fun j hj => ?_)
        unfold upd
        dsimp only
        by_cases e : j = k
        · subst e; rw [if_pos rfl, if_pos (by omega)]
        · rw [if_neg e]
          by_cases e2 : j < k
          · rw [if_pos e2, if_pos (show j < k + 1 by omega)]
          · rw [if_neg e2, if_neg (show ¬ j < k + 1 by omega)]
      · rw [heap_drew, heap_set_other _ _ _ _ _ (by omega)]; exact L1.out
      · rw [heap_drew, heap_set_other _ _ _ _ _ (by omega)]; exact L2.out
    · obtain rfl : k = 32 := by omega
      have l3 : wr.heap[w.heap.size]? = some (.cells (vals .i64 32 fun j => (x j : Int) + pD j - (y j : Int)) 3 (0, 0)) := l0.trans (congrArg (fun x => some (Obj.cells x 3 (0, 0))) (vals_congr _ _ fun j hj => if_pos hj))
      have hs := lb.size
      have HB := Lib.hid (below_any _ 32 (by omega) 32 w.heap.size (fun j hj => by have := HX.out j hj; have := HY.out j hj; have := pD_bd j; omega) (by rw [HN.out]; omega) (by rw [HN.out]; have := HAB.out; unfold Two256 at this; unfold T256; omega) _ l3)
      clear l0 l1 l2 l3
      go_wp2_with fail
      refine HB.out.mono ?_
      rintro e w4 ⟨rfl, g2⟩
      go_wp2
      go_ret
      exact ⟨by rw [HN.out, toNat_mod]; rfl, lb.grown g2 hs (fun k hk => by cases hk; exact Nat.le_refl _)⟩
end Go.Proofs.Ytikmghmapmlebaa
