/-
  The program's Bytes: the number below p; its condition: digits below 2^63.
-/
import Derived.Test.YtikmghmapmlebaaFe
import Derived.StillTailTactics
namespace Go.Proofs.Ytikmghmapmlebaa
open Go.RowKit Go.Rh F255

def topO (g : Nat → Nat) : Nat := (g 4 + (g 3 + (g 2 + (g 1 + (g 0 + 19) / 2251799813685248) / 2251799813685248) / 2251799813685248) / 2251799813685248) / 2251799813685248
def topF (g : Nat → Nat) : Nat → Nat := fun j => if j = 0 then g 0 + 19 * topO g else g j
def nrm (f : Nat → Nat) : Nat → Nat → Nat
  | 0 => f
  | k + 1 => fun j => if j = k then nrm f k k % 2251799813685248 else if j = k + 1 then nrm f k (k + 1) + nrm f k k / 2251799813685248 else nrm f k j
def nrmE (f : Nat → Nat) : Nat → Nat := fun j => if j = 4 then nrm f 4 4 % 2251799813685248 else nrm f 4 j
/-- The digits, in their bits, as Bytes has them. -/
def finD (f : Nat → Nat) : Nat → Nat := nrmE (topF (carryN (carryN (carryN f))))

theorem nrmE_eq (f : Nat → Nat) (j : Nat) (hj : j < 5) : nrmE f j = chunk 51 (val f % 2 ^ 255) 255 j := by
  unfold chunk val
  simp only [Nat.mod_mod]
  match j, hj with
  | 0, _ => simp only [nrmE, nrm, Nat.reducePow, Nat.reduceMul]; simp; omega
  | 1, _ => simp only [nrmE, nrm, Nat.reducePow, Nat.reduceMul]; simp; omega
  | 2, _ => simp only [nrmE, nrm, Nat.reducePow, Nat.reduceMul]; simp; omega
  | 3, _ => simp only [nrmE, nrm, Nat.reducePow, Nat.reduceMul]; simp; omega
  | 4, _ => simp only [nrmE, nrm, Nat.reducePow, Nat.reduceMul]; simp; omega

theorem carryN_lt (f : Nat → Nat) (hf : ∀ j, j < 5 → f j < 9223372036854775808) (j : Nat) (hj : j < 5) : carryN f j < 4503599627370496 := by
  have h0 := hf 0 (by decide); have h1 := hf 1 (by decide); have h2 := hf 2 (by decide); have h3 := hf 3 (by decide); have h4 := hf 4 (by decide)
  have q4 : cs4 f < 9223372036854780000 := by unfold cs4 cs3 cs2 cs1; omega
  match j, hj with
  | 0, _ => simp only [carryN]; omega
  | 1, _ => simp only [carryN]; omega
  | 2, _ => simp only [carryN]; omega
  | 3, _ => simp only [carryN]; omega
  | 4, _ => simp only [carryN]; omega

theorem val_carry (f : Nat → Nat) : val (carryN f) = val f % 57896044618658097711785492504343953926634992332820282019728792003956564819968 + 19 * (val f / 57896044618658097711785492504343953926634992332820282019728792003956564819968) := by
  simp only [val, carryN, cs4, cs3, cs2, cs1]
  omega

/-- The digits of a number below 2^51 each. -/
def small (g : Nat → Nat) : Prop := ∀ j, j < 5 → g j < 2251799813685248

theorem val_small {g : Nat → Nat} (h : small g) : val g < 57896044618658097711785492504343953926634992332820282019728792003956564819968 := by
  have h0 := h 0 (by decide); have h1 := h 1 (by decide); have h2 := h 2 (by decide); have h3 := h 3 (by decide); have h4 := h 4 (by decide)
  unfold val; omega

theorem carry_twice (f : Nat → Nat) (hf : ∀ j, j < 5 → f j < 9223372036854775808) : small (carryN (carryN f)) := by
  have h0 := hf 0 (by decide); have h1 := hf 1 (by decide); have h2 := hf 2 (by decide); have h3 := hf 3 (by decide); have h4 := hf 4 (by decide)
  have q4 : cs4 f < 9223372036854780000 := by unfold cs4 cs3 cs2 cs1; omega
  intro j hj
  have e0 : carryN f 0 = f 0 % 2251799813685248 + 19 * (cs4 f / 2251799813685248) := rfl
  have e1 : carryN f 1 < 2251799813685248 := by simp only [carryN]; omega
  have e2 : carryN f 2 < 2251799813685248 := by simp only [carryN]; omega
  have e3 : carryN f 3 < 2251799813685248 := by simp only [carryN]; omega
  have e4 : carryN f 4 < 2251799813685248 := by simp only [carryN]; omega
  generalize carryN f = g at *
  match j, hj with
  | 0, _ =>
    simp only [carryN, cs4, cs3, cs2, cs1]; omega
  | 1, _ => simp only [carryN]; omega
  | 2, _ => simp only [carryN]; omega
  | 3, _ => simp only [carryN]; omega
  | 4, _ => simp only [carryN]; omega

theorem topF_lt {g : Nat → Nat} (h : small g) (ho : topO g ≤ 1) : ∀ j, j < 5 → topF g j < 4503599627370000 := by
  intro j hj
  have := h j hj
  have := h 0 (by decide)
  unfold topF; split <;> omega
theorem topO_le {g : Nat → Nat} (h : small g) : topO g ≤ 1 := by
  have h0 := h 0 (by decide); have h1 := h 1 (by decide); have h2 := h 2 (by decide); have h3 := h 3 (by decide); have h4 := h 4 (by decide)
  unfold topO; omega
theorem nrm_lt {f : Nat → Nat} (hf : ∀ j, j < 5 → f j < 4503599627370000) : ∀ k, k < 5 → ∀ j, j < 5 → (k < j → nrm f k j = f j) ∧ nrm f k j < 4503599627370400
  | 0, _, j, hj => ⟨fun _ => rfl, Nat.lt_trans (hf j hj) (by decide)⟩
  | k + 1, hk, j, hj => by
    have h1 := nrm_lt hf k (by omega) j hj
    have h2 := nrm_lt hf k (by omega) k (by omega)
    have h3 := nrm_lt hf k (by omega) (k + 1) hk
    have h4 := hf (k + 1) hk
    have h5 := h3.1 (by omega)
    simp only [nrm]
    constructor
    · intro h
      rw [if_neg (by omega), if_neg (by omega)]
      exact h1.1 (by omega)
    · split
      · omega
      · split
        · omega
        · exact h1.2

theorem over_step (x y : Nat) (hx : x < 9223372036854775808) (hy : y < 9223372036854775808) : IntKind.u64.wrap ((x : Int) + (y : Int) / 2251799813685248) = ((x + y / 2251799813685248 : Nat) : Int) := by
  rw [wraps_u64 _ (by omega) (by omega)]; omega

theorem shr_bit (n : Nat) (g : Nat → Nat) (k : Nat) (hg : g (k / 51) < 2251799813685248) (hn : n / 2 ^ k % 2 = g (k / 51) / 2 ^ (k % 51) % 2) :
    bits .or .u8 ((chunk 8 n k (k / 8) : Nat) : Int) (IntKind.u8.wrap (IntKind.u8.wrap (bits .and .u64 ((g (k / 51) : Int) / 2 ^ (k % 51)) 1) * 2 ^ (k % 8))) =
      ((chunk 8 n (k + 1) (k / 8) : Nat) : Int) := by
  have e1 : ((g (k / 51) : Int) / 2 ^ (k % 51)) = ((g (k / 51) / 2 ^ (k % 51) : Nat) : Int) := by simp
  have hb2 : g (k / 51) / 2 ^ (k % 51) < 2 ^ 64 := Nat.lt_of_le_of_lt (Nat.div_le_self _ _) (by omega)
  have e2 := and_u64 1 (by decide) _ hb2
  rw [e1, show (1 : Int) = 2 ^ 1 - 1 by decide, e2, ← hn, chunk_here (by decide)]
  have hlt := chunk_lt (w := 8) (n := n) (i := k) (by decide)
  have hr : k % 8 < 8 := Nat.mod_lt _ (by decide)
  have hp : 2 ^ (k % 8) ≤ 2 ^ 7 := Nat.pow_le_pow_right (by decide) (by omega)
  have hp0 : 0 < 2 ^ (k % 8) := Nat.two_pow_pos _
  have hm : n / 2 ^ k % 2 < 2 := Nat.mod_lt _ (by decide)
  generalize n / 2 ^ k % 2 = c at *
  generalize chunk 8 n k (k / 8) = d at *
  have hc : c * 2 ^ (k % 8) ≤ 1 * 2 ^ (k % 8) := Nat.mul_le_mul_right _ (by omega)
  rw [wraps_u8 (c : Int) (by omega) (by omega)]
  have e3 : ((c : Int) * 2 ^ (k % 8)) = ((c * 2 ^ (k % 8) : Nat) : Int) := by simp
  rw [e3, wraps_u8 _ (by omega) (by omega)]
  exact or_u8 (k % 8) c d hlt (by omega) (by omega)

set_option maxRecDepth 100000 in
set_option maxHeartbeats 2000000 in
theorem bytes_any (f : Nat → Nat) (hf : ∀ j, j < 5 → f j < 9223372036854775808) (w : World) :
    Calls Try.prog 36 #[.agg (U64 f)] w fun e w' => e = .returned (.agg (U8 (chunk 8 (val (topF (carryN (carryN (carryN f)))) % 2 ^ 255) 255))) ∧ Below w.heap.size w w' := by
  have H1 := Lib.hid (carryN_lt f hf)
  have hs : small (carryN (carryN (carryN f))) := carry_twice (carryN f) fun j hj => Nat.lt_trans (H1.out j hj) (by decide)
  have H2 := Lib.hid (carryN_lt (carryN f) fun j hj => Nat.lt_trans (H1.out j hj) (by decide))
  have HF := Lib.hid hf
  clear hf
  have h0 := heap2 w (.cells (U64 f) 26) (.cells (vals .u8 32 fun _ => 0) 22)
  obtain ⟨g, hg⟩ : ∃ g, g = carryN (carryN (carryN f)) := ⟨_, rfl⟩
  rw [← hg] at hs
  have HG := Lib.hid hg
  have HS := Lib.hid hs
  clear hg hs
  go_enter Try.func36, Try.ntmps36
  go_wp2_with (refine wpList_load_row rfl 26 _ rfl w.heap.size rfl 26 (U64 f) (0, 0) _ h0.1 Try.underlying26 rfl (sz26.trans (by simp [U64])) ?_)
  refine (carry_any _ HF.out _).mono ?_
  rintro e w1 ⟨rfl, hb1⟩
  have HB1 := Lib.hid hb1
  clear hb1
  go_wp2_with fail
  refine (carry_any _ (fun j hj => Nat.lt_trans (H1.out j hj) (by decide)) _).mono ?_
  rintro e w2 ⟨rfl, hb2⟩
  have HB2 := Lib.hid hb2
  clear hb2
  go_wp2_with fail
  refine (carry_any _ (fun j hj => Nat.lt_trans (H2.out j hj) (by decide)) _).mono ?_
  rintro e w3 ⟨rfl, hb3⟩
  have HB3 := Lib.hid hb3
  clear hb3
  have z1 := HB1.out.size
  have z2 := HB2.out.size
  have z3 := HB3.out.size
  simp at z1
  have k0 : w3.heap[w.heap.size]? = some (.cells (U64 f) 26 (0, 0)) := by
    rw [HB3.out.block _ (by omega), HB2.out.block _ (by omega), HB1.out.block _ (by simp <;> omega)]; exact h0.1
  have k1 : w3.heap[w.heap.size + 1]? = some (.cells (vals .u8 32 fun _ => 0) 22 (0, 0)) := by
    rw [HB3.out.block _ (by omega), HB2.out.block _ (by omega), HB1.out.block _ (by simp <;> omega)]; exact h0.2
  have kb : Below w.heap.size w w3 := by
    refine Below.trans (b := w1) ?_ ((HB2.out.mono (by omega)).trans (HB3.out.mono (by omega)))
    exact Below.trans (by go_grown) (HB1.out.mono (by simp; omega))
  clear z1 z2 z3 h0 HB1 HB2 HB3 H1 H2
  obtain ⟨W4, hW4⟩ : ∃ W, W = w3.setRow w.heap.size (U64 (carryN (carryN (carryN f)))) := ⟨_, rfl⟩
  have l0 : W4.heap[w.heap.size]? = some (.cells (U64 g) 26 (0, 0)) := by rw [hW4, HG.out]; exact setRow_heap _ _ _ _ _ _ k0
  have l1 : W4.heap[w.heap.size + 1]? = some (.cells (vals .u8 32 fun _ => 0) 22 (0, 0)) := by rw [hW4, setRow_other _ _ _ _ (by omega)]; exact k1
  have lb : Below w.heap.size w W4 := by rw [hW4]; exact below_setRow kb (Nat.le_refl _) _
  have HW4 := Lib.hid hW4
  clear hW4
  have s0 := HS.out 0 (by decide)
  have s1 := HS.out 1 (by decide)
  have s2 := HS.out 2 (by decide)
  have s3 := HS.out 3 (by decide)
  have s4 := HS.out 4 (by decide)
  have c0 : W4.cell? ⟨w.heap.size, 0, none⟩ = some (.int .u64 (g 0)) := cell_vals l0 (by decide)
  have c1 : W4.cell? ⟨w.heap.size, 1, none⟩ = some (.int .u64 (g 1)) := cell_vals l0 (by decide)
  have c2 : W4.cell? ⟨w.heap.size, 2, none⟩ = some (.int .u64 (g 2)) := cell_vals l0 (by decide)
  have c3 : W4.cell? ⟨w.heap.size, 3, none⟩ = some (.int .u64 (g 3)) := cell_vals l0 (by decide)
  have c4 : W4.cell? ⟨w.heap.size, 4, none⟩ = some (.int .u64 (g 4)) := cell_vals l0 (by decide)
  have f0 : W4.frozen? ⟨w.heap.size, 0, none⟩ = false := frozen_of_row _ _ _ _ _ l0
  have L0 := Lib.hid l0
  have L1 := Lib.hid l1
  have K0 := Lib.hid k0
  clear l0 l1 k0 k1 HF
  go_wp2_with (first | (refine wpList_store_row rfl 26 _ _ rfl w.heap.size _ rfl rfl 26 _ K0.out (sz26.trans (by simp [U64])) (by simp [U64]) (vals_one _ _ _) ?_; rw [← HW4.out]) | fail)
  go_rounds 6
  have HT := Lib.hid (topF_lt HS.out (topO_le HS.out))
  have e0 : ((g 0 : Int) + 19 * (((g 4 : Int) + ((g 3 : Int) + ((g 2 : Int) + ((g 1 : Int) + ((g 0 : Int) + 19) / 2251799813685248) / 2251799813685248) / 2251799813685248) / 2251799813685248) / 2251799813685248)) = ((topF g 0 : Nat) : Int) := by
    show _ = ((g 0 + 19 * topO g : Nat) : Int)
    unfold topO
    omega
  rw [e0]
  clear e0 c0 c1 c2 c3 c4 s0 s1 s2 s3 s4 f0 kb HW4 K0
  go_loopw [36] (fun i wr => ∃ k : Nat, k ≤ 4 ∧ i = .int .i64 k ∧ wr.heap[w.heap.size]? = some (.cells (U64 (nrm (topF g) k)) 26 (0, 0)) ∧ wr.heap[w.heap.size + 1]? = some (.cells (vals .u8 32 fun _ => 0) 22 (0, 0)) ∧ Below w.heap.size w wr) (fun i _ => 4 - (intOf i).toNat)
  case atStart =>
    refine ⟨0, by omega, rfl, ?_, ?_, lb.setCell (Nat.le_refl _) _⟩
    · rw [heap_set_vals (n := 5) _ L0.out (by decide), U64_set]
      rfl
    · rw [heap_set_other _ _ _ _ _ (by omega)]; exact L1.out
  case round =>
    clear L0 L1 lb
    obtain ⟨k, hk, rfl, l0, l1, lb⟩ := hrel
    by_cases hlt : k < 4
    · obtain ⟨x0, hx0⟩ : ∃ x, x = nrm (topF g) k k := ⟨_, rfl⟩
      obtain ⟨x1, hx1⟩ : ∃ x, x = nrm (topF g) k (k + 1) := ⟨_, rfl⟩
      have b0 := (nrm_lt HT.out k (by omega) k (by omega)).2
      have b1 := (nrm_lt HT.out k (by omega) (k + 1) (by omega)).2
      rw [← hx0] at b0
      rw [← hx1] at b1
      obtain ⟨y1, hy1⟩ : ∃ x, x = x1 + x0 / 2251799813685248 := ⟨_, rfl⟩
      obtain ⟨y0, hy0⟩ : ∃ x, x = x0 % 2251799813685248 := ⟨_, rfl⟩
      have e1 : IntKind.u64.wrap ((x1 : Int) + (x0 : Int) / 2251799813685248) = (y1 : Int) := by rw [hy1]; exact over_step x1 x0 (by omega) (by omega)
      have e2 : bits .and .u64 (x0 : Int) 2251799813685247 = (y0 : Int) := by rw [hy0]; exact u64_mask x0 (by omega)
      have e3 : IntKind.i64.wrap ((k : Int) + 1) = (k : Int) + 1 := IntWalk.i64_in _ (by omega)
      have t1 : ((k : Int) + 1).toNat = k + 1 := by omega
      have q1 : 0 ≤ (k : Int) + 1 := by omega
      have q2 : (k : Int) + 1 < 5 := by omega
      have q3 : (k : Int) < 5 := by omega
      have q4 : k < 5 := by omega
      have c0 : wr.cell? ⟨w.heap.size, k, none⟩ = some (.int .u64 x0) := by rw [hx0]; exact cell_vals l0 (by omega)
      have c1 : wr.cell? ⟨w.heap.size, k + 1, none⟩ = some (.int .u64 x1) := by rw [hx1]; exact cell_vals l0 (by omega)
      have f0 : wr.frozen? ⟨w.heap.size, k, none⟩ = false := frozen_of_row _ _ _ _ _ l0
      have f1 : wr.frozen? ⟨w.heap.size, k + 1, none⟩ = false := frozen_of_row _ _ _ _ _ l0
      have HN : Hid (∀ j, nrm (topF g) (k + 1) j = if j = k then y0 else if j = k + 1 then y1 else nrm (topF g) k j) := Lib.hid (by
        intro j
        simp only [nrm]
        rw [hy0, hy1, hx0, hx1])
      have L0 := Lib.hid l0
      have L1 := Lib.hid l1
      clear hx0 hx1 hy0 hy1 l0 l1
      go_wp2
      go_still_tail 13, (by kernel_rfl)
      change wpList _ _ _ _ _ wr.drew
      go_wp2
      refine ⟨⟨k + 1, by omega, by go_num, ?_, ?_, ((lb.setCell (Nat.le_refl _) _).setCell (Nat.le_refl _) _).drew⟩, by simp [intOf]; omega⟩
      · rw [heap_drew, heap_set_vals (f := upd (fun j => (nrm (topF g) k j : Int)) (k + 1) (y1 : Int)) (n := 5) _ (heap_set_vals (n := 5) _ L0.out (by omega)) (by omega)]
        refine congrArg (fun x => some (Obj.cells x 26 (0, 0))) (vals_congr _ _ fun j hj => ?_)
        have := HN.out j
        show upd _ k _ j = ((nrm (topF g) (k + 1) j : Nat) : Int)
        rw [this]
        unfold upd
        by_cases e : j = k
        · rw [if_pos e, if_pos e]
        · rw [if_neg e, if_neg e]
          split <;> rfl
      · rw [heap_drew, heap_set_other _ _ _ _ _ (by omega), heap_set_other _ _ _ _ _ (by omega)]; exact L1.out
    · have hk4 : k = 4 := by omega
      rw [hk4] at l0
      have HK4 := Lib.hid hk4
      clear hk4
      have HN := Lib.hid (fun j hj => nrmE_eq (topF g) j hj)
      obtain ⟨n, hn⟩ : ∃ n, n = val (topF g) % 2 ^ 255 := ⟨_, rfl⟩
      have hx := (nrm_lt HT.out 4 (by decide) 4 (by decide)).2
      obtain ⟨x4, hx4⟩ : ∃ x, x = nrm (topF g) 4 4 := ⟨_, rfl⟩
      obtain ⟨y4, hy4⟩ : ∃ y, y = x4 % 2251799813685248 := ⟨_, rfl⟩
      rw [← hx4] at hx
      have e2 : bits .and .u64 (x4 : Int) 2251799813685247 = (y4 : Int) := by rw [hy4]; exact u64_mask x4 (by omega)
      have c0 : wr.cell? ⟨w.heap.size, 4, none⟩ = some (.int .u64 x4) := by rw [hx4]; exact cell_vals l0 (by decide)
      have f0 : wr.frozen? ⟨w.heap.size, 4, none⟩ = false := frozen_of_row _ _ _ _ _ l0
      have l2 : (wr.setCell ⟨w.heap.size, 4, none⟩ (.int .u64 y4)).heap[w.heap.size]? = some (.cells (U64 (chunk 51 n 255)) 26 (0, 0)) := by
        rw [heap_set_vals (n := 5) _ l0 (by decide), U64_set]
        refine congrArg (fun x => some (Obj.cells x 26 (0, 0))) (vals_congr _ _ fun j hj => ?_)
        have e : (if j = 4 then y4 else nrm (topF g) 4 j) = chunk 51 n 255 j := by
          rw [hn, ← HN.out j hj, nrmE, hy4, hx4]
        exact congrArg Int.ofNat e
      have hsz := heap_lt l1
      have L1 := Lib.hid l1
      have L2 := Lib.hid l2
      clear l0 l1 l2 hx4 hy4
      have HNN := Lib.hid hn
      clear hn
      obtain ⟨wo, hwo⟩ : ∃ wo : World, wo = wr := ⟨_, rfl⟩
      subst hwo
      go_wp2
      go_loopw [66] (fun i wr => ∃ k : Nat, k ≤ 255 ∧ i = .int .i64 k ∧ wr.heap[w.heap.size]? = some (.cells (U64 (chunk 51 n 255)) 26 (0, 0)) ∧ wr.heap[w.heap.size + 1]? = some (.cells (vals .u8 32 fun _ => 0) 22 (0, 0)) ∧
          wr.heap[wo.heap.size]? = some (.cells (U8 (chunk 8 n k)) 22 (0, 0)) ∧ Below w.heap.size w wr) (fun i _ => 255 - (intOf i).toNat)
      case atStart =>
        refine ⟨0, by omega, rfl, ?_, ?_, ?_, (lb.setCell (Nat.le_refl _) _).alloc (by simp; have := lb.size; omega) _⟩
        · rw [heap_old _ _ _ (by simp; omega)]; exact L2.out
        · rw [heap_old _ _ _ (by simp; omega), heap_set_other _ _ _ _ _ (by omega)]; exact L1.out
        · rw [heap_new' _ _ _ (by simp), show chunk 8 n 0 = fun _ => 0 from funext fun q => chunk_zero _ _ q]; rfl
      case round =>
        clear L1 L2 lb hx e2 c0 f0 HN HT HS
        obtain ⟨k, hk, rfl, l0, l1, l2, lb⟩ := hrel
        by_cases hlt : k < 255
        · have e1 : IntKind.i64.wrap ((k : Int) / 51) = (k : Int) / 51 := IntWalk.i64_in _ (by omega)
          have e2 : IntKind.i64.wrap ((k : Int) / 8) = (k : Int) / 8 := IntWalk.i64_in _ (by omega)
          have t1 : ((k : Int) / 51).toNat = k / 51 := by omega
          have t2 : ((k : Int) / 8).toNat = k / 8 := by omega
          have b1 : 0 ≤ (k : Int) / 51 := by omega
          have b2 : (k : Int) / 51 < 5 := by omega
          have b3 : 0 ≤ (k : Int) / 8 := by omega
          have b4 : (k : Int) / 8 < 32 := by omega
          have b5 : 0 ≤ (k : Int) % 8 := by omega
          have b6 : 0 ≤ (k : Int) % 51 := by omega
          have c1 : wr.cell? ⟨w.heap.size, k / 51, none⟩ = some (.int .u64 (chunk 51 n 255 (k / 51))) := cell_vals l0 (by omega)
          have c2 : wr.cell? ⟨wo.heap.size, k / 8, none⟩ = some (.int .u8 (chunk 8 n k (k / 8))) := cell_vals l2 (by omega)
          have m1 : (k : Int).tmod 8 = (k : Int) % 8 := Int.tmod_eq_emod_of_nonneg (by omega)
          have m2 : (k : Int).tmod 51 = (k : Int) % 51 := Int.tmod_eq_emod_of_nonneg (by omega)
          have f1 : wr.frozen? ⟨wo.heap.size, k / 8, none⟩ = false := frozen_of_row _ _ _ _ _ l2
          have hdig : ∀ j, j < 5 → chunk 51 n 255 j < 2251799813685248 := fun j _ => Nat.mod_lt _ (by decide)
          have hbit : n / 2 ^ k % 2 = chunk 51 n 255 (k / 51) / 2 ^ (k % 51) % 2 := by
            rw [← val_bit _ hdig k hlt, val_chunk n (by rw [HNN.out]; exact Nat.mod_lt _ (by decide))]
          have HS := Lib.hid (shr_bit n (chunk 51 n 255) k (hdig _ (by omega)) hbit)
          have L0 := Lib.hid l0
          have L1 := Lib.hid l1
          have L2 := Lib.hid l2
          clear l0 l1 l2 hdig hbit
          go_wp2
          go_still_tail 19, (by kernel_rfl)
          change wpList _ _ _ _ _ wr.drew
          go_wp2
          go_roundw
          case measure => simp [intOf]; omega
          have HS' := HS.out
          rw [IntKind.wrap_u8, IntKind.wrap_u8] at HS'
          rw [HS']
          refine ⟨k + 1, by omega, by go_num, ?_, ?_, ?_, (lb.setCell (by show w.heap.size ≤ wo.heap.size; omega) _).drew⟩
          · rw [heap_drew, heap_set_other _ _ _ _ _ (by omega)]; exact L0.out
          · rw [heap_drew, heap_set_other _ _ _ _ _ (by omega)]; exact L1.out
          · rw [heap_drew, heap_set_vals (n := 32) _ L2.out (by omega)]
            refine congrArg (fun x => some (Obj.cells x 22 (0, 0))) (vals_congr _ _ fun j hj => ?_)
            unfold upd
            split
            · next e => rw [e]
            · next e => rw [chunk_there (by decide) e]
        · obtain rfl : k = 255 := by omega
          go_wp2_with (first | (refine wpList_load_row rfl 22 _ rfl wo.heap.size rfl 22 (U8 (chunk 8 n 255)) (0, 0) _ l2 Try.underlying22 rfl (sz22.trans (by simp [U8])) ?_) | (refine wpList_store_row rfl 22 _ _ rfl (w.heap.size + 1) _ rfl rfl 22 _ l1 (sz22.trans (by simp [U8])) (by simp [U8]) (vals_one _ _ _) ?_))
          refine bodyPost_ret (results_cell_row rfl _ _ _ 22 _ (0, 0) _ rfl (setRow_heap _ _ _ _ _ _ l1) Try.underlying22 rfl (sz22.trans (by simp [U8]))) rfl ⟨by rw [HNN.out, HG.out], below_setRow lb (by omega) _⟩
end Go.Proofs.Ytikmghmapmlebaa
