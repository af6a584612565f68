/-
  The program's Mul, as digits; its condition: digits below 2^52.
-/
import Derived.Test.YtikmghmapmlebaaFd
import Derived.StillTailTactics
namespace Go.Proofs.Ytikmghmapmlebaa
open Go.RowKit Go.Rh F255

/-- One product of digits, where it goes. -/
def tT (a b : Nat → Nat) (i j q : Nat) : Nat := if (if 5 ≤ i + j then i + j - 5 else i + j) = q then a i * (if 5 ≤ i + j then b j * 19 else b j) else 0
def rowS (a b : Nat → Nat) (i : Nat) : Nat → Nat → Nat
  | 0, _ => 0
  | l + 1, q => rowS a b i l q + tT a b i l q
def accS (a b : Nat → Nat) : Nat → Nat → Nat
  | 0, _ => 0
  | k + 1, q => accS a b k q + rowS a b k 5 q
def okD (a : Nat → Nat) : Prop := ∀ j, j < 5 → a j < 4503599627370496

theorem tT_le {a b : Nat → Nat} (ha : okD a) (hb : okD b) {i j : Nat} (hi : i < 5) (hj : j < 5) (q : Nat) : tT a b i j q ≤ 385374663616632711410486889283584 := by
  have h1 := ha i hi
  have h2 := hb j hj
  have e1 : a i * (b j * 19) ≤ 4503599627370496 * (4503599627370496 * 19) := Nat.mul_le_mul (by omega) (by omega)
  have e2 : a i * b j ≤ 4503599627370496 * 4503599627370496 := Nat.mul_le_mul (by omega) (by omega)
  unfold tT
  by_cases h : 5 ≤ i + j
  · simp only [if_pos h]; split <;> omega
  · simp only [if_neg h]; split <;> omega
theorem rowS_le {a b : Nat → Nat} (ha : okD a) (hb : okD b) {i : Nat} (hi : i < 5) (q : Nat) : ∀ l, l ≤ 5 → rowS a b i l q ≤ l * 385374663616632711410486889283584
  | 0, _ => by simp [rowS]
  | l + 1, h => by
    have h1 := rowS_le ha hb hi q l (by omega)
    have h2 := tT_le ha hb hi (show l < 5 by omega) q
    simp only [rowS]; omega
theorem accS_le {a b : Nat → Nat} (ha : okD a) (hb : okD b) (q : Nat) : ∀ k, k ≤ 5 → accS a b k q ≤ k * 1926873318083163557052434446417920
  | 0, _ => by simp [accS]
  | k + 1, h => by
    have h1 := accS_le ha hb q k (by omega)
    have h2 := rowS_le ha hb (show k < 5 by omega) q 5 (by omega)
    simp only [accS]; omega

/-- Two words are a number. -/
def two (hi lo : Nat → Nat) (s : Nat → Nat) : Prop := ∀ q, q < 5 → hi q * 18446744073709551616 + lo q = s q ∧ lo q < 18446744073709551616

theorem add_two (h l p : Nat) (hl : l < 18446744073709551616) (hh : h < 4503599627370496) (hp : p < 20769187434139310514121985316880384) :
    IntKind.u64.wrap ((h : Int) + IntKind.u64.wrap (((p / 18446744073709551616 : Nat) : Int) + (((l + p % 18446744073709551616) / 18446744073709551616 : Nat) : Int))) =
      ((h + (p / 18446744073709551616 + (l + p % 18446744073709551616) / 18446744073709551616) : Nat) : Int) := by
  rw [wraps_u64 (((p / 18446744073709551616 : Nat) : Int) + (((l + p % 18446744073709551616) / 18446744073709551616 : Nat) : Int)) (by omega) (by omega), wraps_u64 _ (by omega) (by omega)]
  omega

theorem two_step {hi lo s s' : Nat → Nat} (h : two hi lo s) (k p : Nat) (hs : ∀ q, s' q = if q = k then s q + p else s q) :
    two (fun q => if q = k then hi k + (p / 18446744073709551616 + (lo k + p % 18446744073709551616) / 18446744073709551616) else hi q)
      (fun q => if q = k then (lo k + p % 18446744073709551616) % 18446744073709551616 else lo q) s' := by
  intro q hq
  obtain ⟨h1, h2⟩ := h q hq
  simp only []
  rw [hs q]
  by_cases e : q = k
  · subst e
    rw [if_pos rfl, if_pos rfl, if_pos rfl]
    omega
  · rw [if_neg e, if_neg e, if_neg e]
    exact ⟨h1, h2⟩

theorem row_step (a b : Nat → Nat) (k l q0 y : Nat) (hq : (if 5 ≤ k + l then k + l - 5 else k + l) = q0) (hy : (if 5 ≤ k + l then b l * 19 else b l) = y) :
    ∀ q, accS a b k q + rowS a b k (l + 1) q = if q = q0 then accS a b k q + rowS a b k l q + a k * y else accS a b k q + rowS a b k l q := by
  intro q
  simp only [rowS, tT, hq, hy]
  by_cases e : q0 = q
  · rw [if_pos e, if_pos e.symm]; omega
  · rw [if_neg e, if_neg (Ne.symm e)]; omega

theorem prod_lt {a b : Nat → Nat} (ha : okD a) (hb : okD b) {k l y : Nat} (hk : k < 5) (hl : l < 5) (hy : (if 5 ≤ k + l then b l * 19 else b l) = y) :
    y < 18446744073709551616 ∧ a k * y < 20769187434139310514121985316880384 ∧ a k < 18446744073709551616 := by
  have h1 := ha k hk
  have h2 := hb l hl
  have h3 : y ≤ 4503599627370496 * 19 := by rw [← hy]; split <;> omega
  have : a k * y ≤ 4503599627370496 * (4503599627370496 * 19) := Nat.mul_le_mul (by omega) h3
  omega

theorem hi_lt {a b hi lo : Nat → Nat} (ha : okD a) (hb : okD b) {k l q : Nat} (hk : k < 5) (hl : l < 5) (hq : q < 5) (h : two hi lo fun q => accS a b k q + rowS a b k l q) :
    hi q < 4503599627370496 ∧ lo q < 18446744073709551616 := by
  have h1 := accS_le ha hb q k (by omega)
  have h2 := rowS_le ha hb hk q l (by omega)
  obtain ⟨h3, h4⟩ := h q hq
  have h5 : k * 1926873318083163557052434446417920 ≤ 5 * 1926873318083163557052434446417920 := Nat.mul_le_mul_right _ (by omega)
  have h6 : l * 385374663616632711410486889283584 ≤ 5 * 385374663616632711410486889283584 := Nat.mul_le_mul_right _ (by omega)
  simp only [] at h3
  omega

/-- The columns, carried on. -/
def ovS (c : Nat → Nat) : Nat → Nat
  | 0 => 0
  | k + 1 => (c k + ovS c k) / 2251799813685248
def outD (c : Nat → Nat) (k q : Nat) : Nat := if q < k then (c q + ovS c q) % 2251799813685248 else 0
def mulF (c : Nat → Nat) : Nat → Nat
  | 0 => outD c 5 0 + 19 * (ovS c 5 % 2251799813685248)
  | 1 => outD c 5 1 + 19 * (ovS c 5 / 2251799813685248)
  | q => outD c 5 q

theorem ovS_lt {c : Nat → Nat} (hc : ∀ q, q < 5 → c q < 20769187434139310514121985316880384) : ∀ k, k ≤ 5 → ovS c k < 9223372036854800000
  | 0, _ => by simp [ovS]
  | k + 1, h => by
    have h1 := ovS_lt hc k (by omega)
    have h2 := hc k (by omega)
    simp only [ovS]; omega

theorem or_ov (h sc sl : Nat) (hh : h < 1125899906842624) (hs : sc ≤ 1) (hl : sl < 18446744073709551616) :
    bits .or .u64 (((h : Int) + (sc : Int)) * 8192) ((sl : Int) / 2251799813685248) = (((h + sc) * 8192 + sl / 2251799813685248 : Nat) : Int) := by
  rw [bits_join .u64 64 (by decide) wraps_u64 13 _ _ (by omega) (by omega) (by omega) (by omega) (by omega) (by omega)]
  omega
theorem mulF_upd (c : Nat → Nat) : vals .u64 5 (upd (upd (fun j => ((outD c 5 j : Nat) : Int)) 0 ((outD c 5 0 + 19 * (ovS c 5 % 2251799813685248) : Nat) : Int)) 1 ((outD c 5 1 + 19 * (ovS c 5 / 2251799813685248) : Nat) : Int)) = U64 (mulF c) := by
  refine vals_congr _ _ fun j hj => ?_
  match j, hj with
  | 0, _ => rfl
  | 1, _ => rfl
  | 2, _ => rfl
  | 3, _ => rfl
  | 4, _ => rfl
theorem outD_lt (c : Nat → Nat) (k q : Nat) : outD c k q < 2251799813685248 := by unfold outD; split <;> omega
theorem mulF_lt {c : Nat → Nat} (hc : ∀ q, q < 5 → c q < 20769187434139310514121985316880384) (j : Nat) (hj : j < 5) : mulF c j < 9223372036854775808 := by
  have h := ovS_lt hc 5 (by omega)
  have h0 := outD_lt c 5 0
  have h1 := outD_lt c 5 1
  match j, hj with
  | 0, _ => simp only [mulF]; omega
  | 1, _ => simp only [mulF]; omega
  | 2, _ => have := outD_lt c 5 2; simp only [mulF]; omega
  | 3, _ => have := outD_lt c 5 3; simp only [mulF]; omega
  | 4, _ => have := outD_lt c 5 4; simp only [mulF]; omega

theorem mul64_named (x y : Nat) (hx : x < 18446744073709551616) (hy : y < 18446744073709551616) (ph pl : Nat) (h1 : ph = x * y / 18446744073709551616) (h2 : pl = x * y % 18446744073709551616) (w : World) :
    Calls Try.prog 39 #[.int .u64 x, .int .u64 y] w fun e w' => e = .returned (.tuple #[.int .u64 ph, .int .u64 pl]) ∧ w = w' := by
  subst h1 h2; exact mul64_any x y hx hy w
theorem add64_named (x y sl sc : Nat) (h1 : sl = (x + y) % 18446744073709551616) (h2 : sc = (x + y) / 18446744073709551616) (w : World) :
    (callFunc 40 #[.int .u64 x, .int .u64 y, .int .u64 0]).run Try.prog w = .ok (.value (.tuple #[.int .u64 sl, .int .u64 sc])) w := by
  subst h1 h2; exact add64_run x y w

theorem upd_nat (f : Nat → Nat) (k v j : Nat) : upd (fun j => ((f j : Nat) : Int)) k ((v : Nat) : Int) j = (((if j = k then v else f j : Nat)) : Int) := by
  unfold upd; split <;> rfl

theorem U64_set (f : Nat → Nat) (k v : Nat) : vals .u64 5 (upd (fun j => ((f j : Nat) : Int)) k ((v : Nat) : Int)) = U64 fun j => if j = k then v else f j :=
  vals_congr _ _ fun j _ => upd_nat f k v j

theorem sz24 : (Try.prog.info? 24).map (·.size) = some 5 := by kernel_rfl
theorem sz23 : (Try.prog.info? 23).map (·.size) = some 1 := by kernel_rfl
theorem idx24 (a : Nat → Nat) (k : Nat) (h : k < 5) (w : World) : (Instr.index 24 (.agg (U64 a)) (.int .i64 (k : Int))).run Try.prog w = .ok (.int .u64 (a k : Int)) w :=
  run_index_arr Try.underlying24 Try.underlying23 sz23 _ _ _ _ (by omega) (by omega) (vals_get .u64 _ (by simpa using h)) w

set_option maxRecDepth 100000 in
set_option maxHeartbeats 4000000 in
theorem mul_any (a b : Nat → Nat) (ha : okD a) (hb : okD b) (w : World) :
    Calls Try.prog 22 #[.agg (U64 a), .agg (U64 b)] w fun e w' => e = .returned (.agg (U64 (carryN (mulF (accS a b 5))))) ∧ Below w.heap.size w w' := by
  have HA := Lib.hid ha
  have HB := Lib.hid hb
  clear ha hb
  have hA0 := heap5 w (.cells (U64 a) 26) (.cells (U64 b) 26) (.cells #[.int .u64 0, .int .u64 0, .int .u64 0, .int .u64 0, .int .u64 0] 26) (.cells #[.int .u64 0, .int .u64 0, .int .u64 0, .int .u64 0, .int .u64 0] 24) (.cells #[.int .u64 0, .int .u64 0, .int .u64 0, .int .u64 0, .int .u64 0] 24)
  go_enter Try.func22, Try.ntmps22
  go_wp2_with (refine wpList_load_row rfl 24 _ rfl w.heap.size rfl 26 (U64 a) (0, 0) _ hA0.1 Try.underlying24 rfl (sz24.trans (by simp [U64])) ?_)
  go_loopw [23] (fun i wr => ∃ (k : Nat) (hi lo : Nat → Nat), k ≤ 5 ∧ i = .int .i64 k ∧ two hi lo (accS a b k) ∧ wr.heap[w.heap.size + 1]? = some (.cells (U64 b) 26 (0, 0)) ∧ wr.heap[w.heap.size + 2]? = some (.cells Z5 26 (0, 0)) ∧
      wr.heap[w.heap.size + 3]? = some (.cells (U64 hi) 24 (0, 0)) ∧ wr.heap[w.heap.size + 4]? = some (.cells (U64 lo) 24 (0, 0)) ∧ wr.heap.size = w.heap.size + 5 ∧ Below w.heap.size w wr) (fun i _ => 5 - (intOf i).toNat)
  case atStart =>
    obtain ⟨_, e2, e3, e4, e5⟩ := hA0
    exact ⟨0, fun _ => 0, fun _ => 0, by omega, rfl, fun q _ => ⟨by simp [accS], by simp⟩, e2, e3, e4, e5, by simp, by go_grown⟩
  case round =>
    clear hA0
    obtain ⟨k, hi, lo, hk, rfl, h2, hb, hz, hhi, hlo, hsz, hbl⟩ := hrel
    by_cases hlt : k < 5
    · have i1 := idx24 a k hlt
      have H2 := Lib.hid h2
      have HZ := Lib.hid hz
      have Hhi := Lib.hid hhi
      have Hlo := Lib.hid hlo
      have Hsz := Lib.hid hsz
      clear h2 hz hhi hlo hsz
      go_wp2_with (refine wpList_load_row rfl 24 _ rfl (w.heap.size + 1) rfl 26 (U64 b) (0, 0) _ hb Try.underlying24 rfl (sz24.trans (by simp [U64])) ?_)
      have HB1 := Lib.hid hb
      clear hb
      obtain ⟨wo, hwo⟩ : ∃ wo : World, wo = wr := ⟨_, rfl⟩
      go_loopw [29] (fun j wi => ∃ (l : Nat) (hi lo : Nat → Nat), l ≤ 5 ∧ j = .int .i64 l ∧ two hi lo (fun q => accS a b k q + rowS a b k l q) ∧ wi.heap[w.heap.size + 1]? = some (.cells (U64 b) 26 (0, 0)) ∧ wi.heap[w.heap.size + 2]? = some (.cells Z5 26 (0, 0)) ∧
          wi.heap[w.heap.size + 3]? = some (.cells (U64 hi) 24 (0, 0)) ∧ wi.heap[w.heap.size + 4]? = some (.cells (U64 lo) 24 (0, 0)) ∧ wi.heap.size = w.heap.size + 5 ∧ Below w.heap.size w wi) (fun j _ => 5 - (intOf j).toNat)
      case atStart => exact ⟨0, hi, lo, by omega, rfl, H2.out, HB1.out, HZ.out, Hhi.out, Hlo.out, Hsz.out, hbl⟩
      case round =>
        clear hwo H2 HB1 HZ Hhi Hlo Hsz hbl i1 wo
        obtain ⟨l, hi, lo, hl, rfl, h2, hb, hz, hhi, hlo, hsz, hbl⟩ := hrel
        by_cases hll : l < 5
        · have i2 := idx24 b l hll
          have H2 := Lib.hid h2
          have HZ := Lib.hid hz
          have Hhi := Lib.hid hhi
          have Hlo := Lib.hid hlo
          have Hsz := Lib.hid hsz
          have HB1 := Lib.hid hb
          clear h2 hz hhi hlo hsz hb
          by_cases hge : 5 ≤ k + l
          · obtain ⟨q, hq⟩ : ∃ q, q = k + l - 5 := ⟨_, rfl⟩
            obtain ⟨y, hy⟩ : ∃ y, y = b l * 19 := ⟨_, rfl⟩
            have hq5 : q < 5 := by omega
            obtain ⟨hy64, hp, ha64⟩ := prod_lt HA.out HB.out hlt hll (y := y) (by rw [if_pos hge]; exact hy.symm)
            obtain ⟨hh, hlo64⟩ := hi_lt HA.out HB.out hlt hll hq5 H2.out
            have HN := two_step (s' := fun q => accS a b k q + rowS a b k (l + 1) q) H2.out q (a k * y) (row_step a b k l q y (by rw [if_pos hge]; exact hq.symm) (by rw [if_pos hge]; exact hy.symm))
            have HE := add_two (hi q) (lo q) (a k * y) hlo64 hh hp
            obtain ⟨ph, hph⟩ : ∃ ph, ph = a k * y / 18446744073709551616 := ⟨_, rfl⟩
            obtain ⟨pl, hpl⟩ : ∃ pl, pl = a k * y % 18446744073709551616 := ⟨_, rfl⟩
            rw [← hph, ← hpl] at HN HE
            obtain ⟨sl, hsl⟩ : ∃ sl, sl = (lo q + pl) % 18446744073709551616 := ⟨_, rfl⟩
            obtain ⟨sc, hsc⟩ : ∃ sc, sc = (lo q + pl) / 18446744073709551616 := ⟨_, rfl⟩
            rw [← hsl, ← hsc] at HN
            rw [← hsc] at HE
            have HN := Lib.hid HN
            have HE := Lib.hid HE
            have t1 : ((k : Int) + (l : Int) - 5).toNat = q := by omega
            have e19 : IntKind.u64.wrap ((b l : Int) * 19) = (y : Int) := by rw [wraps_u64 _ (by omega) (by omega)]; omega
            have cl : wr.cell? ⟨w.heap.size + 1 + 1 + 1 + 1, q, none⟩ = some (.int .u64 (lo q)) := cell_vals Hlo.out hq5
            have ch : wr.cell? ⟨w.heap.size + 1 + 1 + 1, q, none⟩ = some (.int .u64 (hi q)) := cell_vals Hhi.out hq5
            have fl : wr.frozen? ⟨w.heap.size + 1 + 1 + 1 + 1, q, none⟩ = false := frozen_of_row _ _ _ _ _ Hlo.out
            have fh : wr.frozen? ⟨w.heap.size + 1 + 1 + 1, q, none⟩ = false := frozen_of_row _ _ _ _ _ Hhi.out
            have ad := add64_named (lo q) pl sl sc hsl hsc
            have HM := Lib.hid (mul64_named (a k) y ha64 hy64 ph pl hph hpl)
            clear hq hy hph hpl hsl hsc
            go_wp2_with fail
            refine (HM.out _).mono ?_
            rintro e w1 ⟨rfl, rfl⟩
            go_wp2
            rw [show ((hi q : Int) + ((ph : Int) + (sc : Int))) = ((hi q + (ph + sc) : Nat) : Int) by simp]
            go_roundw
            case rel =>
              refine ⟨l + 1, _, _, by omega, by go_num, HN.out, ?_, ?_, ?_, ?_, ?_, ?_⟩
              · rw [heap_set_other _ _ _ _ _ (by omega), heap_set_other _ _ _ _ _ (by omega)]; exact HB1.out
              · rw [heap_set_other _ _ _ _ _ (by omega), heap_set_other _ _ _ _ _ (by omega)]; exact HZ.out
              · rw [heap_set_vals (f := fun j => (hi j : Int)) (n := 5) _ ((heap_set_other _ _ _ _ _ (by omega)).trans Hhi.out) hq5, U64_set]
              · rw [heap_set_other _ _ _ _ _ (by omega), show w.heap.size + 1 + 1 + 1 + 1 = w.heap.size + 4 by omega, heap_set_vals (f := fun j => (lo j : Int)) (n := 5) _ Hlo.out hq5, U64_set]
              · simp; exact Hsz.out
              · exact (hbl.setCell (by show w.heap.size ≤ w.heap.size + 1 + 1 + 1 + 1; omega) _).setCell (by show w.heap.size ≤ w.heap.size + 1 + 1 + 1; omega) _
            case measure => simp [intOf]; omega
          · obtain ⟨q, hq⟩ : ∃ q, q = k + l := ⟨_, rfl⟩
            obtain ⟨y, hy⟩ : ∃ y, y = b l := ⟨_, rfl⟩
            have hq5 : q < 5 := by omega
            obtain ⟨hy64, hp, ha64⟩ := prod_lt HA.out HB.out hlt hll (y := y) (by rw [if_neg hge]; exact hy.symm)
            obtain ⟨hh, hlo64⟩ := hi_lt HA.out HB.out hlt hll hq5 H2.out
            have HN := two_step (s' := fun q => accS a b k q + rowS a b k (l + 1) q) H2.out q (a k * y) (row_step a b k l q y (by rw [if_neg hge]; exact hq.symm) (by rw [if_neg hge]; exact hy.symm))
            have HE := add_two (hi q) (lo q) (a k * y) hlo64 hh hp
            obtain ⟨ph, hph⟩ : ∃ ph, ph = a k * y / 18446744073709551616 := ⟨_, rfl⟩
            obtain ⟨pl, hpl⟩ : ∃ pl, pl = a k * y % 18446744073709551616 := ⟨_, rfl⟩
            rw [← hph, ← hpl] at HN HE
            obtain ⟨sl, hsl⟩ : ∃ sl, sl = (lo q + pl) % 18446744073709551616 := ⟨_, rfl⟩
            obtain ⟨sc, hsc⟩ : ∃ sc, sc = (lo q + pl) / 18446744073709551616 := ⟨_, rfl⟩
            rw [← hsl, ← hsc] at HN
            rw [← hsc] at HE
            have HN := Lib.hid HN
            have HE := Lib.hid HE
            have t1 : ((k : Int) + (l : Int)).toNat = q := by omega
            have cl : wr.cell? ⟨w.heap.size + 1 + 1 + 1 + 1, q, none⟩ = some (.int .u64 (lo q)) := cell_vals Hlo.out hq5
            have ch : wr.cell? ⟨w.heap.size + 1 + 1 + 1, q, none⟩ = some (.int .u64 (hi q)) := cell_vals Hhi.out hq5
            have fl : wr.frozen? ⟨w.heap.size + 1 + 1 + 1 + 1, q, none⟩ = false := frozen_of_row _ _ _ _ _ Hlo.out
            have fh : wr.frozen? ⟨w.heap.size + 1 + 1 + 1, q, none⟩ = false := frozen_of_row _ _ _ _ _ Hhi.out
            have ad := add64_named (lo q) pl sl sc hsl hsc
            have HM := Lib.hid (mul64_named (a k) y ha64 hy64 ph pl hph hpl)
            clear hq hph hpl hsl hsc
            subst hy
            go_wp2_with fail
            refine (HM.out _).mono ?_
            rintro e w1 ⟨rfl, rfl⟩
            go_wp2
            rw [show ((hi q : Int) + ((ph : Int) + (sc : Int))) = ((hi q + (ph + sc) : Nat) : Int) by simp]
            go_roundw
            case rel =>
              refine ⟨l + 1, _, _, by omega, by go_num, HN.out, ?_, ?_, ?_, ?_, ?_, ?_⟩
              · rw [heap_set_other _ _ _ _ _ (by omega), heap_set_other _ _ _ _ _ (by omega)]; exact HB1.out
              · rw [heap_set_other _ _ _ _ _ (by omega), heap_set_other _ _ _ _ _ (by omega)]; exact HZ.out
              · rw [heap_set_vals (f := fun j => (hi j : Int)) (n := 5) _ ((heap_set_other _ _ _ _ _ (by omega)).trans Hhi.out) hq5, U64_set]
              · rw [heap_set_other _ _ _ _ _ (by omega), show w.heap.size + 1 + 1 + 1 + 1 = w.heap.size + 4 by omega, heap_set_vals (f := fun j => (lo j : Int)) (n := 5) _ Hlo.out hq5, U64_set]
              · simp; exact Hsz.out
              · exact (hbl.setCell (by show w.heap.size ≤ w.heap.size + 1 + 1 + 1 + 1; omega) _).setCell (by show w.heap.size ≤ w.heap.size + 1 + 1 + 1; omega) _
            case measure => simp [intOf]; omega
        · obtain rfl : l = 5 := by omega
          go_wp2
          go_roundw
          case rel => exact ⟨k + 1, hi, lo, by omega, by go_num, h2, hb, hz, hhi, hlo, hsz, hbl⟩
          case measure => simp [intOf]; omega
    · obtain rfl : k = 5 := by omega
      have HZ := Lib.hid hz
      have Hhi := Lib.hid hhi
      have Hlo := Lib.hid hlo
      have Hsz := Lib.hid hsz
      clear hz hhi hlo hb
      have hc : ∀ q, q < 5 → accS a b 5 q < 20769187434139310514121985316880384 := fun q hq => by
        have := accS_le HA.out HB.out q 5 (by omega); omega
      obtain ⟨c, hcE⟩ : ∃ c, c = accS a b 5 := ⟨_, rfl⟩
      rw [← hcE] at h2 hc
      have HcE := Lib.hid hcE
      have H2 := Lib.hid h2
      clear hcE h2
      have HC := Lib.hid hc
      clear hc HA HB
      obtain ⟨wo, hwo⟩ : ∃ wo : World, wo = wr := ⟨_, rfl⟩
      subst hwo
      go_wp2
      go_loopw [16, 68] (fun o i w3 => ∃ (k : Nat), k ≤ 5 ∧ i = .int .i64 k ∧ o = .int .u64 (ovS c k) ∧ w3.heap[w.heap.size + 2]? = some (.cells Z5 26 (0, 0)) ∧
          w3.heap[w.heap.size + 3]? = some (.cells (U64 hi) 24 (0, 0)) ∧ w3.heap[w.heap.size + 4]? = some (.cells (U64 lo) 24 (0, 0)) ∧ w3.heap[w.heap.size + 5]? = some (.cells (U64 (outD c k)) 26 (0, 0)) ∧ Below w.heap.size w w3) (fun _ i _ => 5 - (intOf i).toNat)
      case atStart =>
        refine ⟨0, by omega, rfl, rfl, ?_, ?_, ?_, ?_, hbl.alloc hbl.size _⟩
        · rw [heap_old _ _ _ (by omega)]; exact HZ.out
        · rw [heap_old _ _ _ (by omega)]; exact Hhi.out
        · rw [heap_old _ _ _ (by omega)]; exact Hlo.out
        · rw [heap_new' _ _ _ (by omega), show outD c 0 = fun _ => 0 from funext fun q => by simp [outD]]; rfl
      case round =>
        clear HZ Hhi Hlo Hsz hbl hsz
        obtain ⟨k, hk, rfl, rfl, hz, hhi, hlo, hout, hbl⟩ := hrel
        by_cases hlt : k < 5
        · obtain ⟨h1, h2⟩ := H2.out k hlt
          have h3 := HC.out k hlt
          have h4 := ovS_lt HC.out k (by omega)
          obtain ⟨ov, hov⟩ : ∃ ov, ov = ovS c k := ⟨_, rfl⟩
          rw [← hov] at h4
          obtain ⟨sl, hsl⟩ : ∃ sl, sl = (lo k + ov) % 18446744073709551616 := ⟨_, rfl⟩
          obtain ⟨sc, hsc⟩ : ∃ sc, sc = (lo k + ov) / 18446744073709551616 := ⟨_, rfl⟩
          obtain ⟨dg, hdg⟩ : ∃ dg, dg = sl % 2251799813685248 := ⟨_, rfl⟩
          have ad := add64_named (lo k) ov sl sc hsl hsc
          have hh : hi k < 1125899906842624 := by omega
          have hs1 : sc ≤ 1 := by omega
          have hm : bits .and .u64 (sl : Int) 2251799813685247 = (dg : Int) := by rw [hdg]; exact u64_mask sl (by omega)
          have HOV := Lib.hid hov
          have HF := Lib.hid (show (c k + ov) % 2251799813685248 = dg ∧ (c k + ov) / 2251799813685248 = (hi k + sc) * 8192 + sl / 2251799813685248 ∧ (hi k + sc) * 8192 + sl / 2251799813685248 < 18446744073709551616 by omega)
          have HO := Lib.hid (or_ov (hi k) sc sl hh hs1 (by omega))
          have cl : wr.cell? ⟨w.heap.size + 1 + 1 + 1 + 1, k, none⟩ = some (.int .u64 (lo k)) := cell_vals hlo hlt
          have ch : wr.cell? ⟨w.heap.size + 1 + 1 + 1, k, none⟩ = some (.int .u64 (hi k)) := cell_vals hhi hlt
          have co : wr.cell? ⟨w.heap.size + 5, k, none⟩ = some (.int .u64 (outD c k k)) := cell_vals hout hlt
          have fo : wr.frozen? ⟨w.heap.size + 5, k, none⟩ = false := frozen_of_row _ _ _ _ _ hout
          have HZ := Lib.hid hz
          have Hhi := Lib.hid hhi
          have Hlo := Lib.hid hlo
          have Hout := Lib.hid hout
          rw [← hov]
          clear hz hhi hlo hout hov hdg hsl hsc h1 h2 h3
          go_wp2
          rw [HO.out]
          refine ⟨⟨k + 1, by omega, by go_num, ?_, ?_, ?_, ?_, ?_, hbl.setCell (by show w.heap.size ≤ w.heap.size + 5; omega) _⟩, by simp [intOf]; omega⟩
          · have := HF.out; have := HOV.out; rw [ovS, ← HOV.out, HF.out.2.1]
          · rw [heap_set_other _ _ _ _ _ (by omega)]; exact HZ.out
          · rw [heap_set_other _ _ _ _ _ (by omega)]; exact Hhi.out
          · rw [heap_set_other _ _ _ _ _ (by omega)]; exact Hlo.out
          · rw [heap_set_vals (f := fun j => (outD c k j : Int)) (n := 5) _ Hout.out hlt, U64_set]
            refine congrArg (fun x => some (Obj.cells (U64 x) 26 (0, 0))) (funext fun q => ?_)
            by_cases e : q = k
            · subst e; rw [if_pos rfl, outD, if_pos (by omega), ← HOV.out, HF.out.1]
            · rw [if_neg e]; unfold outD
              by_cases e2 : q < k
              · rw [if_pos e2, if_pos (by omega)]
              · rw [if_neg e2, if_neg (by omega)]
        · obtain rfl : k = 5 := by omega
          have h4 := ovS_lt HC.out 5 (by omega)
          have g0 := outD_lt c 5 0
          have g1 := outD_lt c 5 1
          have HL := Lib.hid (mulF_lt HC.out)
          have c0 : wr.cell? ⟨w.heap.size + 5, 0, none⟩ = some (.int .u64 (outD c 5 0)) := cell_vals hout (by decide)
          have c1 : wr.cell? ⟨w.heap.size + 5, 1, none⟩ = some (.int .u64 (outD c 5 1)) := cell_vals hout (by decide)
          have f0 : wr.frozen? ⟨w.heap.size + 5, 0, none⟩ = false := frozen_of_row _ _ _ _ _ hout
          have f1 : wr.frozen? ⟨w.heap.size + 5, 1, none⟩ = false := frozen_of_row _ _ _ _ _ hout
          have HU : ((wr.setCell ⟨w.heap.size + 5, 0, none⟩ (.int .u64 ((outD c 5 0 + 19 * (ovS c 5 % 2251799813685248) : Nat) : Int))).setCell ⟨w.heap.size + 5, 1, none⟩ (.int .u64 ((outD c 5 1 + 19 * (ovS c 5 / 2251799813685248) : Nat) : Int))).heap[w.heap.size + 5]? = some (.cells (U64 (mulF c)) 26 (0, 0)) := by
            rw [← mulF_upd c]
            exact heap_set_vals (n := 5) _ (heap_set_vals (n := 5) _ hout (by decide)) (by decide)
          have HZ2 : ((wr.setCell ⟨w.heap.size + 5, 0, none⟩ (.int .u64 ((outD c 5 0 + 19 * (ovS c 5 % 2251799813685248) : Nat) : Int))).setCell ⟨w.heap.size + 5, 1, none⟩ (.int .u64 ((outD c 5 1 + 19 * (ovS c 5 / 2251799813685248) : Nat) : Int))).heap[w.heap.size + 2]? = some (.cells Z5 26 (0, 0)) := by
            rw [heap_set_other _ _ _ _ _ (by omega), heap_set_other _ _ _ _ _ (by omega)]; exact hz
          have hm : bits .and .u64 (ovS c 5 : Int) 2251799813685247 = ((ovS c 5 % 2251799813685248 : Nat) : Int) := u64_mask _ (by omega)
          clear hz hhi hlo hout H2 HC wo
          generalize ovS c 5 = ov at *
          generalize outD c 5 0 = o0 at *
          generalize outD c 5 1 = o1 at *
          simp only [Int.natCast_add, Int.natCast_mul, Int.natCast_emod, Int.natCast_ediv, Int.cast_ofNat_Int] at HU HZ2
          have HZ3 := Lib.hid HZ2
          clear HZ2
          go_wp2_with (first | (refine wpList_load_row rfl 26 _ rfl (w.heap.size + 5) rfl 26 (U64 (mulF c)) (0, 0) _ HU Try.underlying26 rfl (sz26.trans (by simp [U64])) ?_; clear HU) | (go_at_call 37; refine (carry_any _ HL.out _).mono ?_; rintro e w1 ⟨rfl, hb1⟩; have h5 := (hb1.block (w.heap.size + 2) (heap_lt HZ3.out)).trans HZ3.out; have HB1 := Lib.hid hb1; clear hb1) | (refine wpList_store_row rfl 26 _ _ rfl (w.heap.size + 2) _ rfl rfl 26 _ h5 (sz26.trans (by simp [U64])) (by simp [U64]; rfl) (vals_one _ _ _) ?_))
          refine bodyPost_ret (results_cell_row rfl _ _ _ 26 _ (0, 0) _ rfl (setRow_heap _ _ _ _ _ _ h5) Try.underlying26 rfl (sz26.trans (by simp [U64]))) rfl ⟨by rw [HcE.out], below_setRow (((hbl.setCell (by show w.heap.size ≤ w.heap.size + 5; omega) _).setCell (by show w.heap.size ≤ w.heap.size + 5; omega) _).trans (HB1.out.mono ?_)) (by omega) _⟩
          have := hbl.size
          simp
          omega
end Go.Proofs.Ytikmghmapmlebaa
