/-
  The text of an element, and Inv as a power; their condition: an element.
-/
import Derived.Test.YtikmghmapmlebaaE
namespace Go.Proofs.Ytikmghmapmlebaa
open Go.RowKit Go.Rh F255

set_option maxRecDepth 100000 in
set_option maxHeartbeats 400000 in
theorem text_any (f : Nat → Nat) (n : Nat) (h : IsEl f n) (w : World) :
    Calls Try.prog 17 #[.agg (U64 f)] w fun e w' => e = .returned (.string (le32 (n % pN))) ∧ Below w.heap.size w w' := by
  have HB := Lib.hid (bytes_any f (fun j hj => Nat.lt_trans (h.ok j hj) (by decide)))
  have HE := Lib.hid (bytes_of h)
  clear h
  have h0 := heap_new' w (.cells (U64 f) 26) w.heap.size rfl
  go_enter Try.func17, Try.ntmps17
  go_wp2_with (refine wpList_load_row rfl 26 _ rfl w.heap.size rfl 26 (U64 f) (0, 0) _ h0 Try.underlying26 rfl (sz26.trans (by simp [U64])) ?_)
  refine (HB.out _).mono ?_
  rintro e w1 ⟨rfl, hb1⟩
  rw [show U8 (chunk 8 (val (topF (carryN (carryN (carryN f)))) % 2 ^ 255) 255) = U8 fun j => n % pN / 256 ^ j % 256 from congrArg U8 HE.out]
  have hs := hb1.size
  simp at hs
  have bb : Below w.heap.size w w1 := Below.trans (by go_grown) (hb1.mono (by simp))
  have l0 := heap_new' w1 (.cells (vals .u8 32 fun _ => 0) 22) w1.heap.size rfl
  have L0 := Lib.hid l0
  clear l0 hb1 h0
  go_wp2_with (refine wpList_store_row rfl 22 _ _ rfl w1.heap.size _ rfl rfl 22 _ L0.out (sz22.trans (by simp [U8])) (by simp [U8]) (vals_one _ _ _) ?_; generalize hW : World.setRow _ _ _ = W2; have l2 : W2.heap[w1.heap.size]? = some (.cells (U8 fun j => n % pN / 256 ^ j % 256) 22 (0, 0)) := (by rw [← hW]; exact setRow_heap _ _ _ _ _ _ L0.out); have lb : Below w.heap.size w W2 := (by rw [← hW]; exact below_setRow (bb.alloc bb.size _) bb.size _); clear hW; have hcv := run_string_row (P := Try.prog) (off := 0) (n := 32) (g := fun j => n % pN / 256 ^ j % 256) Try.underlying29 Try.underlying5 Try.underlying9 l2 32 32 (by omega); rw [show bstr (fun j => n % pN / 256 ^ (0 + j) % 256) 32 = le32 (n % pN) from bstr_congr fun j _ => by rw [Nat.zero_add]] at hcv; clear l2)
  go_ret
  exact ⟨rfl, lb⟩

theorem one_el : IsEl (fun j => if j = 0 then 1 else 0) 1 := ⟨fun j _ => by split <;> decide, by decide⟩

theorem bits_p : ∀ i, i < 255 → (pN - 2) / 2 ^ i = 2 * ((pN - 2) / 2 ^ (i + 1)) + if i = 2 ∨ i = 4 then 0 else 1 := by
  have h : ∀ i, i < 255 → (pN - 2) / 2 ^ i % 2 = if i = 2 ∨ i = 4 then 0 else 1 := by decide +kernel
  intro i hi
  rw [← h i hi, Nat.pow_succ, ← Nat.div_div_eq_div_mul]
  omega

set_option maxRecDepth 100000 in
set_option maxHeartbeats 2000000 in
theorem inv_any (a : Nat → Nat) (n : Nat) (ha : IsEl a n) (w : World) :
    Calls Try.prog 24 #[.agg (U64 a)] w fun e w' => (∃ f, e = .returned (.agg (U64 f)) ∧ IsEl f (n ^ (pN - 2))) ∧ Below w.heap.size w w' := by
  have HA := Lib.hid ha
  clear ha
  have h3 := heap3 w (.cells (U64 a) 26) (.cells #[.int .u64 0, .int .u64 0, .int .u64 0, .int .u64 0, .int .u64 0] 26) (.cells #[.int .u64 1, .int .u64 0, .int .u64 0, .int .u64 0, .int .u64 0] 26)
  have H3 := Lib.hid h3
  clear h3
  go_enter Try.func24, Try.ntmps24
  go_wp2
  go_loopw [4] (fun i wr => ∃ (x : Int) (o : Nat → Nat), -1 ≤ x ∧ x ≤ 254 ∧ i = .int .i64 x ∧ IsEl o (n ^ ((pN - 2) / 2 ^ (x + 1).toNat)) ∧ wr.heap[w.heap.size]? = some (.cells (U64 a) 26 (0, 0)) ∧ wr.heap[w.heap.size + 1]? = some (.cells Z5 26 (0, 0)) ∧
      wr.heap[w.heap.size + 2]? = some (.cells (U64 o) 26 (0, 0)) ∧ Below w.heap.size w wr) (fun i _ => (intOf i + 1).toNat)
  case atStart =>
    refine ⟨254, (fun j => if j = 0 then 1 else 0), by omega, by omega, rfl, ?_, H3.out.1, H3.out.2.1, H3.out.2.2, by go_grown⟩
    rw [show (pN - 2) / 2 ^ ((254 : Int) + 1).toNat = 0 by decide +kernel, Nat.pow_zero]
    exact one_el
  case round =>
    clear H3
    obtain ⟨x, o, hx1, hx2, rfl, ho, l0, l1, l2, lb⟩ := hrel
    by_cases hx : 0 ≤ x
    · obtain ⟨k, rfl⟩ := Int.eq_ofNat_of_zero_le hx
      have hk : k < 255 := by omega
      have hbit := bits_p k hk
      have e1 : ((k : Int) + 1).toNat = k + 1 := by omega
      rw [e1] at ho
      have HO := Lib.hid ho
      have HBit := Lib.hid hbit
      have L0 := Lib.hid l0
      have L1 := Lib.hid l1
      have ls := lb.size
      clear ho hbit l0 l1 e1
      go_wp2_with (refine wpList_load_row rfl 26 _ rfl (w.heap.size + 2) rfl 26 (U64 o) (0, 0) _ l2 Try.underlying26 rfl (sz26.trans (by simp [U64])) ?_)
      refine (mul_any o o HO.out.ok HO.out.ok _).mono ?_
      rintro e w1 ⟨rfl, hb1⟩
      obtain ⟨o2, ho2⟩ : ∃ o2, o2 = carryN (mulF (accS o o 5)) := ⟨_, rfl⟩
      have hel := isEl_mul HO.out HO.out
      rw [← ho2] at hel
      rw [← ho2]
      have m2 := (hb1.block _ (heap_lt l2)).trans l2
      have bb : Below w.heap.size w w1 := lb.trans (hb1.mono ls)
      obtain ⟨W2, hW2⟩ : ∃ W, W = w1.setRow (w.heap.size + 2) (U64 o2) := ⟨_, rfl⟩
      have q0 : W2.heap[w.heap.size]? = some (.cells (U64 a) 26 (0, 0)) := by rw [hW2, setRow_other _ _ _ _ (by omega)]; exact (hb1.block _ (heap_lt L0.out)).trans L0.out
      have q1 : W2.heap[w.heap.size + 1]? = some (.cells Z5 26 (0, 0)) := by rw [hW2, setRow_other _ _ _ _ (by omega)]; exact (hb1.block _ (heap_lt L1.out)).trans L1.out
      have q2 : W2.heap[w.heap.size + 2]? = some (.cells (U64 o2) 26 (0, 0)) := by rw [hW2]; exact setRow_heap _ _ _ _ _ _ m2
      have qb : Below w.heap.size w W2 := by rw [hW2]; exact below_setRow bb (by omega) _
      have HW2 := Lib.hid hW2
      have HEl := Lib.hid hel
      have M2 := Lib.hid m2
      have Q1 := Lib.hid q1
      have qs := qb.size
      clear hW2 ho2 hel hb1 l2 m2 L0 L1 bb lb q1
      by_cases c2 : k = 2 ∨ k = 4
      · have HE2 : Hid (IsEl o2 (n ^ ((pN - 2) / 2 ^ k))) := Lib.hid (by
          have := HEl.out
          rw [← Nat.pow_add] at this
          rw [HBit.out, if_pos c2, Nat.add_zero, Nat.two_mul]; exact this)
        have Q0 := Lib.hid q0
        have Q2 := Lib.hid q2
        clear q0 q2
        rcases c2 with c2 | c2 <;> subst c2
        all_goals
          go_wp2_with (refine wpList_store_row rfl 26 _ _ rfl (w.heap.size + 2) _ rfl rfl 26 _ M2.out (sz26.trans (by simp [U64])) (by simp [U64]) (vals_one _ _ _) ?_; rw [← HW2.out])
          go_roundw
          case rel => exact ⟨_, o2, by omega, by omega, rfl, HE2.out, Q0.out, Q1.out, Q2.out, qb⟩
          case measure => simp [intOf]
      · have d2 : ((k : Int) != 2) = true := by simp; omega
        have d4 : ((k : Int) != 4) = true := by simp; omega
        go_wp2_with (first | (refine wpList_store_row rfl 26 _ _ rfl (w.heap.size + 2) _ rfl rfl 26 _ M2.out (sz26.trans (by simp [U64])) (by simp [U64]) (vals_one _ _ _) ?_; rw [← HW2.out]) | (refine wpList_load_row rfl 26 (.tmp 3) rfl (w.heap.size + 2) rfl 26 (U64 o2) (0, 0) _ q2 Try.underlying26 rfl (sz26.trans (by simp [U64])) ?_) | (refine wpList_load_row rfl 26 (.tmp 1) rfl w.heap.size rfl 26 (U64 a) (0, 0) _ q0 Try.underlying26 rfl (sz26.trans (by simp [U64])) ?_))
        refine (mul_any o2 a HEl.out.ok HA.out.ok _).mono ?_
        rintro e w3 ⟨rfl, hb3⟩
        obtain ⟨o3, ho3⟩ : ∃ o3, o3 = carryN (mulF (accS o2 a 5)) := ⟨_, rfl⟩
        have hel := isEl_mul HEl.out HA.out
        rw [← ho3] at hel
        rw [← ho3]
        have HE3 : Hid (IsEl o3 (n ^ ((pN - 2) / 2 ^ k))) := Lib.hid (by
          rw [← Nat.pow_add, ← Nat.pow_succ] at hel
          rw [HBit.out, if_neg c2, Nat.two_mul]; exact hel)
        have m3 := (hb3.block _ (heap_lt q2)).trans q2
        have M3 := Lib.hid m3
        have R0 := Lib.hid ((hb3.block _ (heap_lt q0)).trans q0)
        have R1 := Lib.hid ((hb3.block _ (heap_lt Q1.out)).trans Q1.out)
        have rb := Lib.hid (qb.trans (hb3.mono qs))
        clear ho3 hel hb3 m3 q0 q2 c2
        go_wp2_with (refine wpList_store_row rfl 26 _ _ rfl (w.heap.size + 2) _ rfl rfl 26 _ M3.out (sz26.trans (by simp [U64])) (by simp [U64]) (vals_one _ _ _) ?_)
        go_roundw
        case measure => simp [intOf]
        refine ⟨_, o3, ?_, ?_, rfl, ?_, ?_, ?_, setRow_heap _ _ _ _ _ _ M3.out, below_setRow rb.out (by omega) _⟩
        · omega
        · omega
        · rw [show ((k : Int) - 1 + 1).toNat = k by omega]; exact HE3.out
        · rw [setRow_other _ _ _ _ (by omega)]; exact R0.out
        · rw [setRow_other _ _ _ _ (by omega)]; exact R1.out
    · have hx0 : x = -1 := by omega
      rw [hx0] at ho
      have HO := Lib.hid ho
      clear ho hx0
      go_wp2_with (first | (refine wpList_load_row rfl 26 _ rfl (w.heap.size + 2) rfl 26 (U64 o) (0, 0) _ l2 Try.underlying26 rfl (sz26.trans (by simp [U64])) ?_) | (refine wpList_store_row rfl 26 _ _ rfl (w.heap.size + 1) _ rfl rfl 26 _ l1 (sz26.trans (by simp [U64])) (by simp [U64]; rfl) (vals_one _ _ _) ?_))
      refine bodyPost_ret (results_cell_row rfl _ _ _ 26 _ (0, 0) _ rfl (setRow_heap _ _ _ _ _ _ l1) Try.underlying26 rfl (sz26.trans (by simp [U64]))) rfl ⟨⟨o, rfl, ?_⟩, below_setRow lb (by omega) _⟩
      have := HO.out
      rw [show (pN - 2) / 2 ^ ((-1 : Int) + 1).toNat = pN - 2 by decide +kernel] at this
      exact this
end Go.Proofs.Ytikmghmapmlebaa
