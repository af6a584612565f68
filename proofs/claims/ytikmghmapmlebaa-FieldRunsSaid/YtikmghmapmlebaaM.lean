/-
  The reference's Inv, the law's one and wraps, and elements by their numbers; no further condition.
-/
import Derived.Test.YtikmghmapmlebaaL
namespace Go.Proofs.Ytikmghmapmlebaa
open Go.RowKit Go.Rh F255

theorem mod_lt256 (x : Nat) : x % pN < Two256 := Nat.lt_trans (Nat.mod_lt _ (by decide)) (by decide)

set_option maxRecDepth 100000 in
set_option maxHeartbeats 1000000 in
theorem refInv_any (n : Nat) (hn : n < Two256) (w : World) :
    Calls Try.prog 25 #[.string (le32 n)] w fun e w' => e = .returned (.string (le32 (n ^ (pN - 2) % pN))) ∧ Below w.heap.size w w' := by
  have HM := Lib.hid (fun a b (ha : a < Two256) (hb : b < Two256) => refMul_any a b ha hb)
  have HS := Lib.hid (small_any 1 (by decide) w)
  have HN := Lib.hid hn
  clear hn
  go_enter Try.func25, Try.ntmps25
  go_wp2_with fail
  refine HS.out.mono ?_
  rintro e w1 ⟨rfl, b1⟩
  go_wp2
  go_loopw [3, 4] (fun o i wr => ∃ (x : Int), -1 ≤ x ∧ x ≤ 254 ∧ i = .int .i64 x ∧ o = .string (le32 (n ^ ((pN - 2) / 2 ^ (x + 1).toNat) % pN)) ∧ Below w.heap.size w wr) (fun _ i _ => (intOf i + 1).toNat)
  case atStart =>
    refine ⟨254, by omega, by omega, rfl, ?_, b1⟩
    rw [show (pN - 2) / 2 ^ ((254 : Int) + 1).toNat = 0 by decide +kernel, Nat.pow_zero, show 1 % pN = 1 by decide]
  case round =>
    clear b1 HS
    obtain ⟨x, hx1, hx2, rfl, rfl, lb⟩ := hrel
    by_cases hx : 0 ≤ x
    · obtain ⟨k, rfl⟩ := Int.eq_ofNat_of_zero_le hx
      have hk : k < 255 := by omega
      have hbit := bits_p k hk
      obtain ⟨m, hm⟩ : ∃ m, m = n ^ ((pN - 2) / 2 ^ (k + 1)) % pN := ⟨_, rfl⟩
      rw [show ((k : Int) + 1).toNat = k + 1 by omega, ← hm]
      have m256 : m < Two256 := by rw [hm]; exact mod_lt256 _
      have hsq : m * m % pN = n ^ (2 * ((pN - 2) / 2 ^ (k + 1))) % pN := by
        rw [hm, ← Nat.mul_mod, ← Nat.pow_add, Nat.two_mul]
      have hsq1 : (m * m % pN) * n % pN = n ^ (2 * ((pN - 2) / 2 ^ (k + 1)) + 1) % pN := by
        rw [hsq, Nat.pow_add n _ 1, Nat.pow_one, Nat.mul_mod, Nat.mod_mod, ← Nat.mul_mod]
      have HSQ := Lib.hid hsq
      have HSQ1 := Lib.hid hsq1
      have HBit := Lib.hid hbit
      have ls := lb.size
      clear hsq hsq1 hbit hm
      have HMM := Lib.hid (HM.out m m m256 m256)
      have HMN := Lib.hid (HM.out (m * m % pN) n (mod_lt256 _) HN.out)
      obtain ⟨q, hq⟩ : ∃ q, q = m * m % pN := ⟨_, rfl⟩
      rw [← hq] at HMM HMN HSQ HSQ1
      clear hq m256
      by_cases c2 : k = 2 ∨ k = 4
      · have HE : Hid (q = n ^ ((pN - 2) / 2 ^ k) % pN) := Lib.hid (by rw [HSQ.out, HBit.out, if_pos c2]; rfl)
        rcases c2 with c2 | c2 <;> subst c2
        all_goals
          go_wp2_with fail
          refine (HMM.out _).mono ?_
          rintro e w2 ⟨rfl, b2⟩
          go_wp2
          go_roundw
          case rel => exact ⟨_, by omega, by omega, rfl, congrArg (fun x => Value.string (le32 x)) HE.out, lb.trans (b2.mono ls)⟩
          case measure => simp [intOf]
      · have d2 : ((k : Int) != 2) = true := by simp; omega
        have d4 : ((k : Int) != 4) = true := by simp; omega
        have HE : Hid (q * n % pN = n ^ ((pN - 2) / 2 ^ k) % pN) := Lib.hid (by rw [HSQ1.out, HBit.out, if_neg c2])
        clear c2
        go_wp2_with fail
        refine (HMM.out _).mono ?_
        rintro e w2 ⟨rfl, b2⟩
        go_wp2_with fail
        refine (HMN.out _).mono ?_
        rintro e w3 ⟨rfl, b3⟩
        go_wp2
        go_roundw
        case measure => simp [intOf]
        refine ⟨_, ?_, ?_, rfl, ?_, (lb.trans (b2.mono ls)).trans (b3.mono (Nat.le_trans ls b2.size))⟩
        · omega
        · omega
        · rw [show ((k : Int) - 1 + 1).toNat = k by omega]; exact congrArg (fun x => Value.string (le32 x)) HE.out
    · have hx0 : x = -1 := by omega
      have HX0 := Lib.hid hx0
      clear hx0
      go_wp2
      go_ret
      refine ⟨?_, lb⟩
      show Ending.returned (.string (le32 (n ^ ((pN - 2) / 2 ^ (x + 1).toNat) % pN))) = _
      rw [HX0.out, show (pN - 2) / 2 ^ ((-1 : Int) + 1).toNat = pN - 2 by decide +kernel]

/-- The contracts, said of numbers. -/
theorem of_el (g : Nat → Nat) (hg : ∀ j, j < 32 → g j < 256) (w : World) :
    Calls Try.prog 14 #[.agg (U8 g)] w fun e w' => (∃ f, e = .returned (.agg (U64 f)) ∧ IsEl f (leN g 32 % 57896044618658097711785492504343953926634992332820282019728792003956564819968)) ∧ Below w.heap.size w w' :=
  (of_any g hg w).mono fun _ _ h => ⟨⟨_, h.1, isEl_of hg⟩, h.2⟩
theorem add_el {a b : Nat → Nat} {m n : Nat} (ha : IsEl a m) (hb : IsEl b n) (w : World) :
    Calls Try.prog 18 #[.agg (U64 a), .agg (U64 b)] w fun e w' => (∃ f, e = .returned (.agg (U64 f)) ∧ IsEl f (m + n)) ∧ Below w.heap.size w w' :=
  (add_any a b (fun j hj => Nat.lt_trans (ha.ok j hj) (by decide)) (fun j hj => Nat.lt_trans (hb.ok j hj) (by decide)) w).mono fun _ _ h => ⟨⟨_, h.1, isEl_add ha hb⟩, h.2⟩
theorem sub_el {a b : Nat → Nat} {m n : Nat} (ha : IsEl a m) (hb : IsEl b n) (hn : n ≤ pN) (w : World) :
    Calls Try.prog 20 #[.agg (U64 a), .agg (U64 b)] w fun e w' => (∃ f, e = .returned (.agg (U64 f)) ∧ IsEl f (m + pN - n)) ∧ Below w.heap.size w w' :=
  (sub_any a b (fun j hj => Nat.lt_trans (ha.ok j hj) (by decide)) hb.ok w).mono fun _ _ h => ⟨⟨_, h.1, isEl_sub ha hb hn⟩, h.2⟩
theorem mul_el {a b : Nat → Nat} {m n : Nat} (ha : IsEl a m) (hb : IsEl b n) (w : World) :
    Calls Try.prog 22 #[.agg (U64 a), .agg (U64 b)] w fun e w' => (∃ f, e = .returned (.agg (U64 f)) ∧ IsEl f (m * n)) ∧ Below w.heap.size w w' :=
  (mul_any a b ha.ok hb.ok w).mono fun _ _ h => ⟨⟨_, h.1, isEl_mul ha hb⟩, h.2⟩
theorem IsEl.of_mod {f : Nat → Nat} {m n : Nat} (h : IsEl f m) (e : m % pN = n % pN) : IsEl f n := ⟨h.ok, h.mod.trans e⟩

set_option maxRecDepth 100000 in
set_option maxHeartbeats 1000000 in
theorem one_any (w : World) : Calls Try.prog 27 #[] w fun e w' => (∃ f, e = .returned (.agg (U64 f)) ∧ IsEl f 1) ∧ Below w.heap.size w w' := by
  have HO := Lib.hid (of_el (fun j => if j = 0 then 1 else 0) (fun j _ => by split <;> decide))
  have h0 := heap_new' w (.cells Z5 26) w.heap.size rfl
  go_enter Try.func27, Try.ntmps27
  go_wp2_with fail
  refine (HO.out _).mono ?_
  rintro e w1 ⟨⟨f, rfl, hf⟩, b1⟩
  have l0 : w1.heap[w.heap.size]? = some (.cells Z5 26 (0, 0)) := (b1.block w.heap.size (by simp)).trans h0
  have lb : Below w.heap.size w w1 := Below.trans (by go_grown) (b1.mono (by simp))
  have HF := Lib.hid hf
  clear h0 b1 hf
  go_wp2_with (refine wpList_store_row rfl 26 _ _ rfl w.heap.size _ rfl rfl 26 _ l0 (sz26.trans (by simp [U64])) (by simp [U64]; rfl) (vals_one _ _ _) ?_)
  refine bodyPost_ret (results_cell_row rfl _ _ _ 26 _ (0, 0) _ rfl (setRow_heap _ _ _ _ _ _ l0) Try.underlying26 rfl (sz26.trans (by simp [U64]))) rfl ⟨⟨f, rfl, ?_⟩, below_setRow lb (by omega) _⟩
  exact HF.out.of_mod (by decide +kernel)

/-- p's bytes. -/
def pB (j : Nat) : Nat := if j = 0 then 237 else if j = 31 then 127 else 255
theorem pB_lt (j : Nat) (_ : j < 32) : pB j < 256 := by unfold pB; split <;> (try split) <;> decide
def pK (k j : Nat) : Nat := if j = 0 then 237 else if j < k then 255 else 0
theorem pK_upd (k j : Nat) (hk : 0 < k) : upd (fun j => ((pK k j : Nat) : Int)) k 255 j = ((pK (k + 1) j : Nat) : Int) := by
  unfold upd pK
  by_cases e : j = k
  · subst e; rw [if_pos rfl, if_neg (by omega), if_pos (by omega)]; rfl
  · rw [if_neg e]
    dsimp only
    by_cases e0 : j = 0
    · rw [if_pos e0, if_pos e0]
    · rw [if_neg e0, if_neg e0]
      by_cases e2 : j < k
      · rw [if_pos e2, if_pos (by omega)]
      · rw [if_neg e2, if_neg (by omega)]

theorem pB_mod : leN pB 32 % 57896044618658097711785492504343953926634992332820282019728792003956564819968 % pN = 0 % pN := by decide +kernel
theorem zero_el : IsEl (fun _ => 0) 0 := ⟨fun j _ => by decide, by decide⟩
theorem text_lt (f : Nat → Nat) (n : Nat) (h : IsEl f n) (hn : n < pN) (w : World) :
    Calls Try.prog 17 #[.agg (U64 f)] w fun e w' => e = .returned (.string (le32 n)) ∧ Below w.heap.size w w' := by
  have := text_any f n h w
  rwa [Nat.mod_eq_of_lt hn] at this

set_option maxRecDepth 100000 in
set_option maxHeartbeats 2000000 in
theorem wraps_any (w : World) : Calls Try.prog 16 #[] w fun e w' => e = .returned (.bool true) ∧ Below w.heap.size w w' := by
  have HO := Lib.hid (of_el pB pB_lt)
  have HS0 := Lib.hid (small_any 0 (by decide))
  have HS1 := Lib.hid (small_any 1 (by decide))
  have h0 : (w.alloc (.cells (vals .u8 32 fun _ => 0) 22)).heap[w.heap.size]? = some (.cells (vals .u8 32 fun _ => 0) 22 (0, 0)) := heap_new' w _ w.heap.size rfl
  have H0 := Lib.hid h0
  clear h0
  go_enter Try.func16, Try.ntmps16
  go_wp2_with (refine wpList_store_row rfl 22 _ _ rfl w.heap.size (vals .u8 32 fun j => ((pK 1 j : Nat) : Int)) rfl rfl 22 _ H0.out (sz22.trans (by simp)) (by simp) (vals_one _ _ _) ?_)
  go_loopw [2] (fun i wr => ∃ k : Nat, 1 ≤ k ∧ k ≤ 31 ∧ i = .int .i64 k ∧ wr.heap[w.heap.size]? = some (.cells (vals .u8 32 fun j => ((pK k j : Nat) : Int)) 22 (0, 0)) ∧ Below w.heap.size w wr) (fun i _ => 31 - (intOf i).toNat)
  case atStart => exact ⟨1, by omega, by omega, rfl, setRow_heap _ _ _ _ _ _ H0.out, below_setRow (by go_grown) (Nat.le_refl _) _⟩
  case round =>
    clear H0
    obtain ⟨k, hk1, hk, rfl, l0, lb⟩ := hrel
    by_cases hlt : k < 31
    · have c0 : wr.cell? ⟨w.heap.size, k, none⟩ = some (.int .u8 (pK k k)) := cell_vals l0 (by omega)
      have f0 : wr.frozen? ⟨w.heap.size, k, none⟩ = false := frozen_of_row _ _ _ _ _ l0
      have hk32 : (k : Int) < 32 := by omega
      have L0 := Lib.hid l0
      clear l0
      go_wp2
      go_roundw
      case measure => simp [intOf]; omega
      refine ⟨k + 1, by omega, by omega, by go_num, ?_, lb.setCell (Nat.le_refl _) _⟩
      rw [heap_set_vals (n := 32) _ L0.out (by omega)]
      exact congrArg (fun x => some (Obj.cells x 22 (0, 0))) (vals_congr _ _ fun j _ => pK_upd k j hk1)
    · obtain rfl : k = 31 := by omega
      have c0 : wr.cell? ⟨w.heap.size, 31, none⟩ = some (.int .u8 (pK 31 31)) := cell_vals l0 (by decide)
      have f0 : wr.frozen? ⟨w.heap.size, 31, none⟩ = false := frozen_of_row _ _ _ _ _ l0
      have l1 : (wr.setCell ⟨w.heap.size, 31, none⟩ (.int .u8 127)).heap[w.heap.size]? = some (.cells (U8 pB) 22 (0, 0)) := by
        rw [heap_set_vals (n := 32) _ l0 (by decide)]
        refine congrArg (fun x => some (Obj.cells x 22 (0, 0))) (vals_congr _ _ fun j hj => ?_)
        unfold upd pK pB
        by_cases e : j = 31
        · subst e; rfl
        · rw [if_neg e]
          dsimp only
          rw [if_neg e]
          by_cases e0 : j = 0
          · rw [if_pos e0, if_pos e0]
          · rw [if_neg e0, if_neg e0, if_pos (by omega)]
      have ls := lb.size
      clear l0
      go_wp2_with (refine wpList_load_row rfl 22 _ rfl w.heap.size rfl 22 (U8 pB) (0, 0) _ l1 Try.underlying22 rfl (sz22.trans (by simp [U8])) ?_)
      refine (HO.out _).mono ?_
      rintro e w1 ⟨⟨f, rfl, hf⟩, b1⟩
      have hf0 : IsEl f 0 := hf.of_mod pB_mod
      have HT := Lib.hid (fun w => text_lt f 0 hf0 (by decide) w)
      have HZ := Lib.hid (fun w => text_lt (fun _ => 0) 0 zero_el (by decide) w)
      clear l1 hf hf0
      go_wp2_with fail
      refine (HT.out _).mono ?_
      rintro e w2 ⟨rfl, b2⟩
      go_wp2_with fail
      refine (HS0.out _).mono ?_
      rintro e w3 ⟨rfl, b3⟩
      go_wp2_with fail
      refine (HZ.out _).mono ?_
      rintro e w4 ⟨rfl, b4⟩
      go_wp2_with fail
      refine (HS0.out _).mono ?_
      rintro e w5 ⟨rfl, b5⟩
      go_wp2_with fail
      refine (one_any _).mono ?_
      rintro e w6 ⟨⟨f1, rfl, hf1⟩, b6⟩
      have HT1 := Lib.hid (fun w => text_lt f1 1 hf1 (by decide) w)
      clear hf1
      go_wp2_with fail
      refine (HT1.out _).mono ?_
      rintro e w7 ⟨rfl, b7⟩
      go_wp2_with fail
      refine (HS1.out _).mono ?_
      rintro e w8 ⟨rfl, b8⟩
      go_wp2
      go_ret
      have z1 := b1.size
      simp at z1
      have z2 := b2.size
      have z3 := b3.size
      have z4 := b4.size
      have z5 := b5.size
      have z6 := b6.size
      have z7 := b7.size
      refine ⟨rfl, ?_⟩
      refine ((lb.setCell (p := ⟨w.heap.size, 31, none⟩) (Nat.le_refl _) (.int .u8 127)).trans (b1.mono (by simp; omega))).trans ?_
      exact ((((((b2.mono (by omega)).trans (b3.mono (by omega))).trans (b4.mono (by omega))).trans (b5.mono (by omega))).trans (b6.mono (by omega))).trans (b7.mono (by omega))).trans (b8.mono (by omega))
end Go.Proofs.Ytikmghmapmlebaa
