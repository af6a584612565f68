/-
  The reference's Mul; its condition: numbers below 2^256.
-/
import Derived.Test.YtikmghmapmlebaaRc
namespace Go.Proofs.Ytikmghmapmlebaa
open Go.RowKit Go.Rh F255

def mT (x y : Nat → Nat) (i l q : Nat) : Nat := if i + l = q then x i * y l else 0
def mRow (x y : Nat → Nat) (i : Nat) : Nat → Nat → Nat
  | 0, _ => 0
  | l + 1, q => mRow x y i l q + mT x y i l q
def mAcc (x y : Nat → Nat) : Nat → Nat → Nat
  | 0, _ => 0
  | k + 1, q => mAcc x y k q + mRow x y k 32 q

theorem leN_add (f g : Nat → Nat) : ∀ n, leN (fun j => f j + g j) n = leN f n + leN g n
  | 0 => rfl
  | n + 1 => by simp only [leN]; rw [leN_add f g n, Nat.add_mul]; omega
theorem leN_mul (c : Nat) (f : Nat → Nat) : ∀ n, leN (fun j => c * f j) n = c * leN f n
  | 0 => rfl
  | n + 1 => by simp only [leN]; rw [leN_mul c f n, Nat.mul_add, Nat.mul_assoc]
theorem leN_one (c v : Nat) : ∀ n, leN (fun q => if c = q then v else 0) n = if c < n then v * 256 ^ c else 0
  | 0 => by simp [leN]
  | n + 1 => by
    simp only [leN]
    rw [leN_one c v n]
    by_cases h : c < n
    · rw [if_pos h, if_neg (by omega), if_pos (by omega)]; omega
    · rw [if_neg h]
      by_cases e : c = n
      · subst e; rw [if_pos rfl, if_pos (by omega)]; omega
      · rw [if_neg e, if_neg (by omega)]; omega
theorem leN_zero : ∀ n, leN (fun _ => 0) n = 0
  | 0 => rfl
  | n + 1 => by simp only [leN]; rw [leN_zero n]; omega
theorem leN_split (f : Nat → Nat) (m : Nat) : ∀ n, leN f (m + n) = leN f m + 256 ^ m * leN (fun j => f (m + j)) n
  | 0 => by simp [leN]
  | n + 1 => by
    show leN f (m + n) + f (m + n) * 256 ^ (m + n) = leN f m + 256 ^ m * (leN (fun j => f (m + j)) n + f (m + n) * 256 ^ n)
    rw [leN_split f m n, Nat.mul_add, Nat.pow_add, Nat.mul_left_comm]
    omega
theorem leN_le {f : Nat → Nat} {B : Nat} : ∀ n, (∀ j, j < n → f j ≤ B) → leN f n ≤ B * 256 ^ n
  | 0, _ => by simp [leN]
  | n + 1, h => by
    have h1 := leN_le n fun j hj => h j (by omega)
    have h2 : f n * 256 ^ n ≤ B * 256 ^ n := Nat.mul_le_mul_right _ (h n (by omega))
    simp only [leN, Nat.pow_succ]
    rw [← Nat.mul_assoc]
    omega

theorem leN_row (x y : Nat → Nat) (i : Nat) (hi : i < 32) : ∀ l, l ≤ 32 → leN (mRow x y i l) 64 = x i * leN y l * 256 ^ i
  | 0, _ => by
    show leN (fun _ => 0) 64 = _
    rw [leN_zero]; simp [leN]
  | l + 1, h => by
    show leN (fun q => mRow x y i l q + (if i + l = q then x i * y l else 0)) 64 = _
    rw [leN_add (mRow x y i l), leN_row x y i hi l (by omega), leN_one, if_pos (by omega)]
    show _ = x i * (leN y l + y l * 256 ^ l) * 256 ^ i
    rw [Nat.mul_add, Nat.add_mul, Nat.pow_add, Nat.mul_comm (256 ^ i)]
    congr 1
    rw [← Nat.mul_assoc, Nat.mul_assoc (x i)]
theorem leN_acc (x y : Nat → Nat) : ∀ k, k ≤ 32 → leN (mAcc x y k) 64 = leN x k * leN y 32
  | 0, _ => by
    show leN (fun _ => 0) 64 = _
    rw [leN_zero]; simp [leN]
  | k + 1, h => by
    show leN (fun q => mAcc x y k q + mRow x y k 32 q) 64 = _
    rw [leN_add (mAcc x y k), leN_acc x y k (by omega), leN_row x y k (by omega) 32 (by omega)]
    show _ = (leN x k + x k * 256 ^ k) * leN y 32
    rw [Nat.add_mul]
    congr 1
    rw [Nat.mul_right_comm]

theorem mRow_le {x y : Nat → Nat} (hx : ∀ j, j < 32 → x j < 256) (hy : ∀ j, j < 32 → y j < 256) {i : Nat} (hi : i < 32) (q : Nat) : ∀ l, l ≤ 32 → mRow x y i l q ≤ l * 65025
  | 0, _ => by simp [mRow]
  | l + 1, h => by
    have h1 := mRow_le hx hy hi q l (by omega)
    have h2 : x i * y l ≤ 255 * 255 := Nat.mul_le_mul (by have := hx i hi; omega) (by have := hy l (by omega); omega)
    have h3 : mT x y i l q ≤ 65025 := by
      unfold mT
      split
      · exact h2
      · exact Nat.zero_le _
    simp only [mRow]
    rw [Nat.add_mul]
    exact Nat.add_le_add h1 (by rw [Nat.one_mul]; exact h3)
theorem mAcc_le {x y : Nat → Nat} (hx : ∀ j, j < 32 → x j < 256) (hy : ∀ j, j < 32 → y j < 256) (q : Nat) : ∀ k, k ≤ 32 → mAcc x y k q ≤ k * 2080800
  | 0, _ => by simp [mAcc]
  | k + 1, h => by
    have h1 := mAcc_le hx hy q k (by omega)
    have h2 := mRow_le hx hy (show k < 32 by omega) q 32 (by omega)
    simp only [mAcc]; omega

/-- The upper half, put back. -/
def foldM (c : Nat → Nat) (k q : Nat) : Nat := if q < k then c q + 38 * c (q + 32) else c q

theorem fold_mod (c : Nat → Nat) : leN (foldM c 32) 32 % pN = leN c 64 % pN := by
  have e1 : leN (foldM c 32) 32 = leN c 32 + 38 * leN (fun j => c (32 + j)) 32 := by
    rw [← leN_mul, ← leN_add]
    exact leN_congr fun j hj => by simp [foldM, hj, Nat.add_comm]
  have e2 := leN_split c 32 32
  have e3 : (256 : Nat) ^ 32 = 115792089237316195423570985008687907853269984665640564039457584007913129639936 := by decide
  rw [e3] at e2
  have e2' : leN c 64 = leN c 32 + 115792089237316195423570985008687907853269984665640564039457584007913129639936 * leN (fun j => c (32 + j)) 32 := e2
  rw [e1, e2']
  unfold pN
  omega

theorem mul_spec (a b : Nat) (ha : a < Two256) (hb : b < Two256) :
    leN (foldM (mAcc (fun j => a / 256 ^ j % 256) (fun j => b / 256 ^ j % 256) 32) 32) 32 % pN = a * b % pN := by
  have h := leN_acc (fun j => a / 256 ^ j % 256) (fun j => b / 256 ^ j % 256) 32 (by omega)
  have e : (256 : Nat) ^ 32 = Two256 := by decide
  rw [fold_mod, h, leN_div, leN_div, e, Nat.mod_eq_of_lt ha, Nat.mod_eq_of_lt hb]

theorem make56'' (w : World) : (Instr.makeSlice 56 (.int .i64 64) (.int .i64 64)).run Try.prog w = .ok (.slice (some ⟨w.heap.size, 0, none⟩) 64 64) (w.alloc (.cells (vals .i64 64 fun _ => 0) 3)) := make56 64 (by decide) w

set_option maxRecDepth 100000 in
set_option maxHeartbeats 2000000 in
theorem refMul_any (a b : Nat) (ha : a < Two256) (hb : b < Two256) (w : World) :
    Calls Try.prog 23 #[.string (le32 a), .string (le32 b)] w fun e w' => e = .returned (.string (le32 (a * b % pN))) ∧ Below w.heap.size w w' := by
  have hmod := mul_spec a b ha hb
  obtain ⟨x, hx⟩ : ∃ x : Nat → Nat, x = fun j => a / 256 ^ j % 256 := ⟨_, rfl⟩
  obtain ⟨y, hy⟩ : ∃ y : Nat → Nat, y = fun j => b / 256 ^ j % 256 := ⟨_, rfl⟩
  rw [← hx, ← hy] at hmod
  have hxb : ∀ j, j < 32 → x j < 256 := fun j _ => by rw [hx]; exact digit_lt a j
  have hyb : ∀ j, j < 32 → y j < 256 := fun j _ => by rw [hy]; exact digit_lt b j
  rw [show le32 a = bstr x 32 by rw [hx]; rfl, show le32 b = bstr y 32 by rw [hy]; rfl]
  have D1 := Lib.hid (digits_any x hxb w)
  have D2 := Lib.hid (digits_any y hyb)
  have HX := Lib.hid hxb
  have HY := Lib.hid hyb
  have HM := Lib.hid hmod
  clear hx hy hxb hyb ha hb hmod
  have hmk := make56''
  go_enter Try.func23, Try.ntmps23
  go_wp2_with fail
  refine D1.out.mono ?_
  rintro e w1 ⟨rfl, l0, b1⟩
  have L0 := Lib.hid l0
  have B1 := Lib.hid b1
  clear l0 b1
  go_wp2_with fail
  refine (D2.out _).mono ?_
  rintro e w2 ⟨rfl, l1, b2⟩
  have l0 := (b2.block w.heap.size (heap_lt L0.out)).trans L0.out
  have hlt : w.heap.size < w1.heap.size := heap_lt L0.out
  have bb : Below w.heap.size w w2 := B1.out.trans (b2.mono (by omega))
  obtain ⟨R, hR⟩ : ∃ R, R = w1.heap.size := ⟨_, rfl⟩
  rw [← hR] at l1 hlt
  rw [← hR]
  have hlt2 : R < w2.heap.size := heap_lt l1
  obtain ⟨Q, hQ⟩ : ∃ Q, Q = w2.heap.size := ⟨_, rfl⟩
  have HQ := Lib.hid hQ
  rw [← hQ] at hlt2
  have hmk2 : (Instr.makeSlice 56 (.int .i64 64) (.int .i64 64)).run Try.prog w2 = .ok (.slice (some ⟨Q, 0, none⟩) 64 64) (w2.alloc (.cells (vals .i64 64 fun _ => 0) 3)) := by rw [hQ]; exact hmk w2
  have L0 := Lib.hid l0
  have L1 := Lib.hid l1
  clear l0 l1 b2 B1 hR hQ hmk
  go_wp2
  go_loopw [8] (fun i wr => ∃ k : Nat, k ≤ 32 ∧ i = .int .i64 k ∧ wr.heap[w.heap.size]? = some (.cells (vals .i64 32 fun j => (x j : Int)) 3 (0, 0)) ∧ wr.heap[R]? = some (.cells (vals .i64 32 fun j => (y j : Int)) 3 (0, 0)) ∧ wr.heap[Q]? = some (.cells (vals .i64 64 fun q => ((mAcc x y k q : Nat) : Int)) 3 (0, 0)) ∧ Below w.heap.size w wr) (fun i _ => 32 - (intOf i).toNat)
  case atStart =>
    refine ⟨0, by omega, rfl, ?_, ?_, ?_, bb.alloc bb.size _⟩
    · rw [heap_old _ _ _ (heap_lt L0.out)]; exact L0.out
    · rw [heap_old _ _ _ (heap_lt L1.out)]; exact L1.out
    · rw [heap_new' _ _ _ HQ.out]; rfl
  case round =>
    clear L0 L1 bb HQ hmk2
    obtain ⟨k, hk, rfl, l0, l1, l2, lb⟩ := hrel
    by_cases hk32 : k < 32
    · have L0 := Lib.hid l0
      have L1 := Lib.hid l1
      have L2 := Lib.hid l2
      clear l0 l1 l2
      obtain ⟨wo, hwo⟩ : ∃ wo : World, wo = wr := ⟨_, rfl⟩
      subst hwo
      have hd : decide ((k : Int) < 32) = true := decide_eq_true (by omega)
      go_wp2
      go_loopw [9] (fun i wr => ∃ l : Nat, l ≤ 32 ∧ i = .int .i64 l ∧ wr.heap[w.heap.size]? = some (.cells (vals .i64 32 fun j => (x j : Int)) 3 (0, 0)) ∧ wr.heap[R]? = some (.cells (vals .i64 32 fun j => (y j : Int)) 3 (0, 0)) ∧ wr.heap[Q]? = some (.cells (vals .i64 64 fun q => ((mAcc x y k q + mRow x y k l q : Nat) : Int)) 3 (0, 0)) ∧ Below w.heap.size w wr) (fun i _ => 32 - (intOf i).toNat)
      case atStart => exact ⟨0, by omega, rfl, L0.out, L1.out, L2.out, lb⟩
      case round =>
        clear L0 L1 L2 lb
        obtain ⟨l, hl, rfl, l0, l1, l2, lb⟩ := hrel
        by_cases hl32 : l < 32
        · have hp : x k * y l ≤ 255 * 255 := Nat.mul_le_mul (by have := HX.out k hk32; omega) (by have := HY.out l hl32; omega)
          have ha := mAcc_le HX.out HY.out (k + l) k hk
          have hr := mRow_le HX.out HY.out hk32 (k + l) l hl
          obtain ⟨s, hs⟩ : ∃ s, s = mAcc x y k (k + l) + mRow x y k l (k + l) := ⟨_, rfl⟩
          have hs2 : s ≤ 100000000 := by omega
          have hkl : (k : Int) + (l : Int) < 64 := by omega
          have hki : (k : Int) < 32 := by omega
          have hli : (l : Int) < 32 := by omega
          have hkl0 : 0 ≤ (k : Int) + (l : Int) := by omega
          have ekl : ((k : Int) + (l : Int)).toNat = k + l := by omega
          have ewk : IntKind.i64.wrap ((k : Int) + (l : Int)) = (k : Int) + (l : Int) := IntWalk.i64_in _ (by omega)
          obtain ⟨z, hz⟩ : ∃ z, z = x k * y l := ⟨_, rfl⟩
          have em : IntKind.i64.wrap ((x k : Int) * (y l : Int)) = (z : Int) := by rw [hz, Int.natCast_mul]; exact IntWalk.i64_in _ (by rw [← Int.natCast_mul]; omega)
          have es : IntKind.i64.wrap ((s : Int) + (z : Int)) = (s : Int) + (z : Int) := IntWalk.i64_in _ (by omega)
          have c0 : wr.cell? ⟨w.heap.size, k, none⟩ = some (.int .i64 (x k)) := cell_vals l0 hk32
          have c1 : wr.cell? ⟨R, l, none⟩ = some (.int .i64 (y l)) := cell_vals l1 hl32
          have c2 : wr.cell? ⟨Q, k + l, none⟩ = some (.int .i64 s) := by rw [cell_vals l2 (by omega), hs]
          have f2 : wr.frozen? ⟨Q, k + l, none⟩ = false := frozen_of_row _ _ _ _ _ l2
          have L0 := Lib.hid l0
          have L1 := Lib.hid l1
          have L2 := Lib.hid l2
          have HS := Lib.hid hs
          have HZ := Lib.hid hz
          clear l0 l1 l2 hs hp ha hr hz
          go_wp2
          go_still_tail 21, (by kernel_rfl)
          change wpList _ _ _ _ _ wr.drew
          go_wp2
          go_roundw
          case measure => simp [intOf]; omega
          refine ⟨l + 1, by omega, by go_num, ?_, ?_, ?_, (lb.setCell (by show w.heap.size ≤ Q; omega) _).drew⟩
          · rw [heap_drew, heap_set_other _ _ _ _ _ (by omega)]; exact L0.out
          · rw [heap_drew, heap_set_other _ _ _ _ _ (by omega)]; exact L1.out
          · rw [heap_drew, heap_set_vals (n := 64) _ L2.out (by omega)]
            refine congrArg (fun x => some (Obj.cells x 3 (0, 0))) (vals_congr _ _ fun j hj => ?_)
            unfold upd
            dsimp only
            by_cases e : j = k + l
            · subst e; rw [if_pos rfl]
              simp only [mRow, mT, if_true]
              rw [HZ.out] at *
              have := HS.out
              omega
            · rw [if_neg e]
              simp only [mRow, mT]
              rw [if_neg (by omega)]
              rfl
        · obtain rfl : l = 32 := by omega
          have L0 := Lib.hid l0
          have L1 := Lib.hid l1
          have L2 := Lib.hid l2
          clear l0 l1 l2
          go_wp2
          go_roundw
          case measure => simp [intOf]; omega
          exact ⟨k + 1, by omega, by go_num, L0.out, L1.out, L2.out, lb⟩
    · have hk32' : k = 32 := by omega
      rw [hk32'] at l2
      have hd : decide ((k : Int) < 32) = false := decide_eq_false (by omega)
      have HK := Lib.hid hk32'
      clear hk32'
      have hc : ∀ q, mAcc x y 32 q ≤ 66585600 := fun q => mAcc_le HX.out HY.out q 32 (by omega)
      obtain ⟨c, hce⟩ : ∃ c, c = mAcc x y 32 := ⟨_, rfl⟩
      rw [← hce] at l2 hc
      have HM2 : Hid (leN (foldM c 32) 32 % pN = a * b % pN) := Lib.hid (by rw [hce]; exact HM.out)
      have HC := Lib.hid hc
      have L2 := Lib.hid l2
      clear l0 l1 l2 hc hce
      obtain ⟨wo, hwo⟩ : ∃ wo : World, wo = wr := ⟨_, rfl⟩
      subst hwo
      go_wp2
      go_loopw [10] (fun i wr => ∃ k : Nat, k ≤ 32 ∧ i = .int .i64 k ∧ wr.heap[Q]? = some (.cells (vals .i64 64 fun q => ((foldM c k q : Nat) : Int)) 3 (0, 0)) ∧ Below w.heap.size w wr) (fun i _ => 32 - (intOf i).toNat)
      case atStart => exact ⟨0, by omega, rfl, L2.out, lb⟩
      case round =>
        clear L2 lb
        obtain ⟨k, hk, rfl, l2, lb⟩ := hrel
        by_cases hk2 : k < 32
        · have h1 := HC.out k
          have h2 := HC.out (k + 32)
          have c0 : wr.cell? ⟨Q, k, none⟩ = some (.int .i64 (c k)) := by rw [cell_vals l2 (by omega), foldM, if_neg (by omega)]
          have c1 : wr.cell? ⟨Q, k + 32, none⟩ = some (.int .i64 (c (k + 32))) := by rw [cell_vals l2 (by omega), foldM, if_neg (by omega)]
          have f2 : wr.frozen? ⟨Q, k, none⟩ = false := frozen_of_row _ _ _ _ _ l2
          have hkl : (k : Int) + 32 < 64 := by omega
          have hk64 : (k : Int) < 64 := by omega
          have hkn : k < 64 := by omega
          have hkl0 : 0 ≤ (k : Int) + 32 := by omega
          have ekl : ((k : Int) + 32).toNat = k + 32 := by omega
          have ewk : IntKind.i64.wrap ((k : Int) + 32) = (k : Int) + 32 := IntWalk.i64_in _ (by omega)
          have em : IntKind.i64.wrap (38 * (c (k + 32) : Int)) = 38 * (c (k + 32) : Int) := IntWalk.i64_in _ (by omega)
          have es : IntKind.i64.wrap ((c k : Int) + 38 * (c (k + 32) : Int)) = (c k : Int) + 38 * (c (k + 32) : Int) := IntWalk.i64_in _ (by omega)
          have L2 := Lib.hid l2
          clear l2
          go_wp2
          go_still_tail 14, (by kernel_rfl)
          change wpList _ _ _ _ _ wr.drew
          go_wp2
          go_roundw
          case measure => simp [intOf]; omega
          refine ⟨k + 1, by omega, by go_num, ?_, (lb.setCell (by show w.heap.size ≤ Q; omega) _).drew⟩
          rw [heap_drew, heap_set_vals (n := 64) _ L2.out (by omega)]
          refine congrArg (fun x => some (Obj.cells x 3 (0, 0))) (vals_congr _ _ fun j hj => ?_)
          unfold upd
          dsimp only
          by_cases e : j = k
          · subst e; rw [if_pos rfl, foldM, if_pos (by omega)]; omega
          · rw [if_neg e]
            unfold foldM
            by_cases e2 : j < k
            · rw [if_pos e2, if_pos (by omega)]
            · rw [if_neg e2, if_neg (by omega)]
        · obtain rfl : k = 32 := by omega
          have hN : NI (fun q => ((foldM c 32 q : Nat) : Int)) 32 = ((leN (foldM c 32) 32 : Nat) : Int) := NI_nat _ _
          have hle : leN (foldM c 32) 32 ≤ 2663424000 * 256 ^ 32 := leN_le 32 fun j hj => by
            have := HC.out j; have := HC.out (j + 32); simp only [foldM, if_pos hj]; omega
          have hs := lb.size
          have HB := Lib.hid (below_any _ 64 (by omega) 64 Q (fun j hj => by have := HC.out j; have := HC.out (j + 32); simp only [foldM, if_pos hj]; omega) (by rw [hN]; omega)
            (by rw [hN]; unfold T256; rw [show 256 ^ 32 = 115792089237316195423570985008687907853269984665640564039457584007913129639936 by decide] at hle; omega) _ l2)
          have HN := Lib.hid hN
          clear l2 hN hle
          go_wp2_with fail
          refine HB.out.mono ?_
          rintro e w3 ⟨rfl, g2⟩
          go_wp2
          go_ret
          exact ⟨by rw [HN.out, toNat_mod, HM2.out]; rfl, lb.grown g2 hs (fun k hk => by cases hk; omega)⟩
end Go.Proofs.Ytikmghmapmlebaa
