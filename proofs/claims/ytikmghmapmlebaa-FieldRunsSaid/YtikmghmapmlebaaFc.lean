/-
  The program's Add and Sub, as digits; conditions: digits below their bounds.
-/
import Derived.Test.YtikmghmapmlebaaFa
import Derived.StillTailTactics
namespace Go.Proofs.Ytikmghmapmlebaa
open Go.RowKit Go.Rh F255

def addK (a b : Nat → Nat) (k : Nat) : Nat → Nat := fun j => if j < k then a j + b j else a j

theorem addK_upd (a b : Nat → Nat) (k j : Nat) : upd (fun j => ((addK a b k j : Nat) : Int)) k ((a k + b k : Nat) : Int) j = ((addK a b (k + 1) j : Nat) : Int) := by
  unfold upd addK
  by_cases e : j = k
  · subst e; rw [if_pos rfl, if_pos (by omega)]
  · rw [if_neg e]
    by_cases e2 : j < k
    · simp only []; rw [if_pos e2, if_pos (by omega)]
    · simp only []; rw [if_neg e2, if_neg (by omega)]
theorem add_store (a b : Nat → Nat) (ha : ∀ j, j < 5 → a j < 4611686018427387904) (hb : ∀ j, j < 5 → b j < 4611686018427387904) (k : Nat) (hk : k < 5) :
    IntKind.u64.wrap ((a k : Int) + (b k : Int)) = ((a k + b k : Nat) : Int) := u64_in' (a k + b k) (by have := ha k hk; have := hb k hk; omega)

set_option maxRecDepth 100000 in
set_option maxHeartbeats 400000 in
theorem add_any (a b : Nat → Nat) (ha : ∀ j, j < 5 → a j < 4611686018427387904) (hb : ∀ j, j < 5 → b j < 4611686018427387904) (w : World) :
    Calls Try.prog 18 #[.agg (U64 a), .agg (U64 b)] w fun e w' => e = .returned (.agg (U64 (carryN (addK a b 5)))) ∧ Below w.heap.size w w' := by
  have HA := Lib.hid ha
  have HB := Lib.hid hb
  clear ha hb
  go_enter Try.func18, Try.ntmps18
  go_wp2
  go_loopw [6] (fun i wr => ∃ k : Nat, k ≤ 5 ∧ i = .int .i64 k ∧ wr.heap[w.heap.size]? = some (.cells (U64 (addK a b k)) 26 (0, 0)) ∧ wr.heap[w.heap.size + 1]? = some (.cells (U64 b) 26 (0, 0)) ∧ wr.heap[w.heap.size + 2]? = some (.cells Z5 26 (0, 0)) ∧ Below w.heap.size w wr) (fun i _ => 5 - (intOf i).toNat)
  case atStart =>
    refine ⟨0, by omega, rfl, ?_, by ((simp only [heap_push, World.size_alloc, if_true]; repeat' split); all_goals (first | rfl | (exfalso; omega))), by ((simp only [heap_push, World.size_alloc, if_true]; repeat' split); all_goals (first | rfl | (exfalso; omega))), by go_grown⟩
    rw [show addK a b 0 = a from funext fun q => by simp [addK]]
    ((simp only [heap_push, World.size_alloc, if_true]; repeat' split); all_goals (first | rfl | (exfalso; omega)))
  case round =>
    obtain ⟨k, hk, rfl, h1, h2, h3, hbl⟩ := hrel
    by_cases hlt : k < 5
    · have c1 : wr.cell? ⟨w.heap.size, k, none⟩ = some (.int .u64 (a k)) := by rw [cell_vals h1 hlt]; simp [addK]
      have c2 : wr.cell? ⟨w.heap.size + 1, k, none⟩ = some (.int .u64 (b k)) := cell_vals h2 hlt
      have f1 : wr.frozen? ⟨w.heap.size, k, none⟩ = false := frozen_of_row _ _ _ _ _ h1
      have H1 := Lib.hid h1
      have H2 := Lib.hid h2
      have H3 := Lib.hid h3
      have HS := Lib.hid (add_store a b HA.out HB.out k hlt)
      clear h1 h2 h3
      go_wp2
      go_still_tail 11, (by kernel_rfl)
      change wpList _ _ _ _ _ wr.drew
      go_wp2
      rw [HS.out]
      refine ⟨⟨k + 1, by omega, by go_num, ?_, ?_, ?_, (hbl.setCell (Nat.le_refl _) _).drew⟩, by simp [intOf]; omega⟩
      · rw [heap_drew, heap_set_vals _ H1.out (by omega)]
        congr 2
        apply vals_congr
        intro j hj
        exact addK_upd a b k j
      · rw [heap_drew, heap_set_other _ _ _ _ _ (by omega)]; exact H2.out
      · rw [heap_drew, heap_set_other _ _ _ _ _ (by omega)]; exact H3.out
    · obtain rfl : k = 5 := by omega
      have hf : ∀ j, j < 5 → addK a b 5 j < 9223372036854775808 := fun j hj => by
        have := HA.out j hj; have := HB.out j hj; simp [addK, hj]; omega
      have HF := Lib.hid hf
      clear hf
      go_wp2_with (first | (refine wpList_load_row rfl 26 _ rfl w.heap.size rfl 26 _ (0, 0) _ h1 Try.underlying26 rfl (sz26.trans (by simp [U64])) ?_) | (go_at_call 37; refine (carry_any _ HF.out _).mono ?_; rintro e w1 ⟨rfl, hb1⟩; have h4 := (hb1.block (w.heap.size + 2) (heap_lt h3)).trans h3; have HB1 := Lib.hid hb1; clear hb1 h1 h2 h3) | (refine wpList_store_row rfl 26 _ _ rfl (w.heap.size + 2) _ rfl rfl 26 _ h4 (sz26.trans (by simp [U64])) (by simp [U64]; rfl) (vals_one _ _ _) ?_))
      refine bodyPost_ret (results_cell_row rfl _ _ _ 26 _ (0, 0) _ rfl (setRow_heap _ _ _ _ _ _ h4) Try.underlying26 rfl (sz26.trans (by simp [U64]))) rfl ⟨rfl, below_setRow (hbl.trans (HB1.out.mono hbl.size)) (by omega) _⟩

def mostK (k : Nat) : Nat := if k = 0 then 9007199254740916 else 9007199254740988
def subK (a b : Nat → Nat) (k : Nat) : Nat → Nat := fun j => if j < k then a j + (mostK j - b j) else a j
theorem subK_upd (a b : Nat → Nat) (k j : Nat) : upd (fun j => ((subK a b k j : Nat) : Int)) k ((a k + (mostK k - b k) : Nat) : Int) j = ((subK a b (k + 1) j : Nat) : Int) := by
  unfold upd subK
  by_cases e : j = k
  · subst e; rw [if_pos rfl, if_pos (by omega)]
  · rw [if_neg e]
    by_cases e2 : j < k
    · simp only []; rw [if_pos e2, if_pos (by omega)]
    · simp only []; rw [if_neg e2, if_neg (by omega)]

theorem sub_store (a b : Nat → Nat) (ha : ∀ j, j < 5 → a j < 4611686018427387904) (hb : ∀ j, j < 5 → b j < 4503599627370496) (k : Nat) (hk : k < 5) :
    IntKind.u64.wrap ((a k : Int) + IntKind.u64.wrap ((mostK k : Int) - (b k : Int))) = ((a k + (mostK k - b k) : Nat) : Int) := by
  have h1 := ha k hk
  have h2 := hb k hk
  have h3 : 9007199254740916 ≤ mostK k ∧ mostK k ≤ 9007199254740988 := by unfold mostK; split <;> omega
  rw [wraps_u64 ((mostK k : Int) - (b k : Int)) (by omega) (by omega), wraps_u64 _ (by omega) (by omega)]
  omega

set_option maxRecDepth 100000 in
set_option maxHeartbeats 800000 in
theorem sub_any (a b : Nat → Nat) (ha : ∀ j, j < 5 → a j < 4611686018427387904) (hb : ∀ j, j < 5 → b j < 4503599627370496) (w : World) :
    Calls Try.prog 20 #[.agg (U64 a), .agg (U64 b)] w fun e w' => e = .returned (.agg (U64 (carryN (subK a b 5)))) ∧ Below w.heap.size w w' := by
  have HA := Lib.hid ha
  have HB := Lib.hid hb
  clear ha hb
  go_enter Try.func20, Try.ntmps20
  go_wp2
  go_loopw [7] (fun i wr => ∃ k : Nat, k ≤ 5 ∧ i = .int .i64 k ∧ wr.heap[w.heap.size]? = some (.cells (U64 (subK a b k)) 26 (0, 0)) ∧ wr.heap[w.heap.size + 1]? = some (.cells (U64 b) 26 (0, 0)) ∧ wr.heap[w.heap.size + 2]? = some (.cells Z5 26 (0, 0)) ∧ Below w.heap.size w wr) (fun i _ => 5 - (intOf i).toNat)
  case atStart =>
    refine ⟨0, by omega, rfl, ?_, by ((simp only [heap_push, World.size_alloc, if_true]; repeat' split); all_goals (first | rfl | (exfalso; omega))), by ((simp only [heap_push, World.size_alloc, if_true]; repeat' split); all_goals (first | rfl | (exfalso; omega))), by go_grown⟩
    rw [show subK a b 0 = a from funext fun q => by simp [subK]]
    ((simp only [heap_push, World.size_alloc, if_true]; repeat' split); all_goals (first | rfl | (exfalso; omega)))
  case round =>
    obtain ⟨k, hk, rfl, h1, h2, h3, hbl⟩ := hrel
    by_cases hlt : k < 5
    · have c1 : wr.cell? ⟨w.heap.size, k, none⟩ = some (.int .u64 (a k)) := by rw [cell_vals h1 hlt]; simp [subK]
      have c2 : wr.cell? ⟨w.heap.size + 1, k, none⟩ = some (.int .u64 (b k)) := cell_vals h2 hlt
      have f1 : wr.frozen? ⟨w.heap.size, k, none⟩ = false := frozen_of_row _ _ _ _ _ h1
      have H1 := Lib.hid h1
      have H2 := Lib.hid h2
      have H3 := Lib.hid h3
      have HS := Lib.hid (sub_store a b HA.out HB.out k hlt)
      clear h1 h2 h3
      by_cases hk0 : k = 0
      · subst hk0
        have HS' : Hid (IntKind.u64.wrap ((a 0 : Int) + IntKind.u64.wrap (9007199254740916 - (b 0 : Int))) = ((a 0 + (mostK 0 - b 0) : Nat) : Int)) := HS
        clear HS
        go_wp2
        go_still_tail 13, (by kernel_rfl)
        change wpList _ _ _ _ _ wr.drew
        go_wp2
        rw [HS'.out]
        refine ⟨⟨0 + 1, by omega, by go_num, ?_, ?_, ?_, (hbl.setCell (Nat.le_refl _) _).drew⟩, by simp [intOf]⟩
        · rw [heap_drew, heap_set_vals _ H1.out (by omega)]
          exact congrArg (fun x => some (Obj.cells x 26 (0, 0))) (vals_congr _ _ fun j _ => subK_upd a b 0 j)
        · rw [heap_drew, heap_set_other _ _ _ _ _ (by omega)]; exact H2.out
        · rw [heap_drew, heap_set_other _ _ _ _ _ (by omega)]; exact H3.out
      · have hk1 : ((k : Int) == 0) = false := by simpa using hk0
        have HS' : Hid (IntKind.u64.wrap ((a k : Int) + IntKind.u64.wrap (9007199254740988 - (b k : Int))) = ((a k + (mostK k - b k) : Nat) : Int)) := by
          have e : (mostK k : Int) = 9007199254740988 := by unfold mostK; rw [if_neg hk0]; rfl
          have := HS.out
          rw [e] at this
          exact Lib.hid this
        clear HS
        go_wp2
        go_still_tail 13, (by kernel_rfl)
        change wpList _ _ _ _ _ wr.drew
        go_wp2
        rw [HS'.out]
        refine ⟨⟨k + 1, by omega, by go_num, ?_, ?_, ?_, (hbl.setCell (Nat.le_refl _) _).drew⟩, by simp [intOf]; omega⟩
        · rw [heap_drew, heap_set_vals _ H1.out (by omega)]
          congr 2
          apply vals_congr
          intro j hj
          exact subK_upd a b k j
        · rw [heap_drew, heap_set_other _ _ _ _ _ (by omega)]; exact H2.out
        · rw [heap_drew, heap_set_other _ _ _ _ _ (by omega)]; exact H3.out
    · obtain rfl : k = 5 := by omega
      have hf : ∀ j, j < 5 → subK a b 5 j < 9223372036854775808 := fun j hj => by
        have := HA.out j hj
        have h3 : mostK j ≤ 9007199254740988 := by unfold mostK; split <;> omega
        simp [subK, hj]; omega
      have HF := Lib.hid hf
      clear hf
      go_wp2_with (first | (refine wpList_load_row rfl 26 _ rfl w.heap.size rfl 26 _ (0, 0) _ h1 Try.underlying26 rfl (sz26.trans (by simp [U64])) ?_) | (go_at_call 37; refine (carry_any _ HF.out _).mono ?_; rintro e w1 ⟨rfl, hb1⟩; have h4 := (hb1.block (w.heap.size + 2) (heap_lt h3)).trans h3; have HB1 := Lib.hid hb1; clear hb1 h1 h2 h3) | (refine wpList_store_row rfl 26 _ _ rfl (w.heap.size + 2) _ rfl rfl 26 _ h4 (sz26.trans (by simp [U64])) (by simp [U64]; rfl) (vals_one _ _ _) ?_))
      refine bodyPost_ret (results_cell_row rfl _ _ _ 26 _ (0, 0) _ rfl (setRow_heap _ _ _ _ _ _ h4) Try.underlying26 rfl (sz26.trans (by simp [U64]))) rfl ⟨rfl, below_setRow (hbl.trans (HB1.out.mono hbl.size)) (by omega) _⟩
end Go.Proofs.Ytikmghmapmlebaa
