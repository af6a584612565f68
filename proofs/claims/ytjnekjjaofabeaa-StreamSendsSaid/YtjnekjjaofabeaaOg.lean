/-
  The cuts of a text; known (f11).
-/
import Derived.Test.YtjnekjjaofabeaaOf
namespace Go.Proofs.Ytjnekjjaofabeaa
open Go.RowKit Go.Rh Rng

/-- A row of cuts in memory. -/
def Deals (W : World) (A : Option Addr) (n : Nat) (X N : Nat → Int) : Prop :=
  0 < n → ∃ b off, A = some ⟨b, off, none⟩ ∧ b < W.heap.size ∧ ∀ j, j < n → W.cell? ⟨b, off + j * 2, none⟩ = some (.int .i64 (X j)) ∧ W.cell? ⟨b, off + j * 2 + 1, none⟩ = some (.int .i64 (N j))
theorem Deals.old {W W' : World} {A : Option Addr} {n : Nat} {X N : Nat → Int} (h : Deals W A n X N) (k : Below W.heap.size W W') : Deals W' A n X N := fun h0 => by
  obtain ⟨b, off, h1, h2, h3⟩ := h h0
  refine ⟨b, off, h1, Nat.lt_of_lt_of_le h2 k.size, fun j hj => ?_⟩
  obtain ⟨c1, c2⟩ := h3 j hj
  exact ⟨(World.cell?_of_block (k.block b h2)).trans c1, (World.cell?_of_block (k.block b h2)).trans c2⟩
/-- A number, rem a measure. -/
def rm (x : Int) (m : Nat) : Nat := ((IntKind.u64.wrap x) % ((m : Int) + 1)).toNat
theorem rm_le (x : Int) (m : Nat) : rm x m ≤ m := by
  unfold rm
  have h1 := Int.emod_nonneg (IntKind.u64.wrap x) (b := (m : Int) + 1) (by omega)
  have h2 := Int.emod_lt_of_pos (IntKind.u64.wrap x) (b := (m : Int) + 1) (by omega)
  omega
theorem rm_is (x : Int) (m : Nat) (hm : m ≤ 1000000) : wrap64 ((IntKind.u64.wrap x).tmod ((m : Int) + 1)) = (rm x m : Int) := by
  have h0 : 0 ≤ IntKind.u64.wrap x := by rw [IntKind.wrap_u64]; omega
  have h1 := Int.emod_nonneg (IntKind.u64.wrap x) (b := (m : Int) + 1) (by omega)
  have h2 := Int.emod_lt_of_pos (IntKind.u64.wrap x) (b := (m : Int) + 1) (by omega)
  unfold rm
  rw [Int.tmod_eq_emod_of_nonneg h0]
  unfold wrap64
  omega
section
variable (n : Nat) (X N : Nat → Int) (S : Nat)
def cOff (k : Nat) : Nat := if k < n ∧ k < 60 then rm (X k) S else 0
def cLen (k : Nat) : Nat := if k < n ∧ k < 60 then rm (N k) (S - rm (X k) S) else S
theorem cut_le (k : Nat) : cOff n X S k + cLen n X N S k ≤ S := by
  unfold cOff cLen
  have := rm_le (X k) S
  have := rm_le (N k) (S - rm (X k) S)
  split <;> omega
/-- Did one of the first k pieces tell the end? -/
def knw : Nat → Bool
  | 0 => false
  | k + 1 => knw k || decide (cOff n X S k + cLen n X N S k = S)
end
theorem knw_mono {n : Nat} {X N : Nat → Int} {S j k : Nat} (h : knw n X N S j = true) (hk : j ≤ k) : knw n X N S k = true := by
  induction hk with
  | refl => exact h
  | step _ ih => simp [knw, ih]
theorem knw_end {n : Nat} {X N : Nat → Int} {S k : Nat} (h : ¬ (k < n ∧ k < 60)) : knw n X N S (k + 1) = true := by simp [knw, cOff, cLen, h]

set_option maxHeartbeats 1000000 in
set_option maxRecDepth 100000 in
theorem known_any {w : World} {A : Option Addr} {n c : Nat} {X N : Nat → Int} (hx : Deals w A n X N) (hn : (n : Int) ≤ 9223372036854775807) {i S : Nat} (hi : i ≤ 60) (hS : S ≤ 2000) :
    Calls Try.prog 11 #[.slice A n c, .int .i64 (i : Int), .int .i64 (S : Int)] w fun e w' => e = .returned (.bool (knw n X N S (i + 1))) ∧ Below w.heap.size w w' := by
  have HX := Lib.hid hx
  clear hx
  have g0 : ¬ (S : Int) + 1 = 0 := by omega
  go_enter Try.func11, Try.ntmps11
  go_wp2_with fail
  go_loopw [7] (fun k wr => ∃ j : Nat, k = .int .i64 (j : Int) ∧ j ≤ i + 1 ∧ knw n X N S j = false ∧ wr = w) (fun k _ => 62 - (intOf k).toNat)
  case atStart => exact ⟨0, rfl, Nat.zero_le _, rfl, rfl⟩
  case round =>
    obtain ⟨j, rfl, hj, hf, rfl⟩ := hrel
    have HF := Lib.hid hf
    clear hf
    by_cases h1 : j ≤ i
    · have d1 : decide ((j : Int) ≤ i) = true := by simp; omega
      by_cases h2 : j < n ∧ j < 60
      · obtain ⟨hn1, hn2⟩ := h2
        have d2 : decide ((n : Int) ≤ (j : Int)) = false := by simp; omega
        have d3 : decide ((60 : Int) ≤ (j : Int)) = false := by simp; omega
        have dn : decide ((j : Int) < n) = true := by simp; omega
        obtain ⟨b, off, rfl, hbl, hcells⟩ := HX.out (by omega)
        obtain ⟨c0, c1⟩ := hcells j hn1
        have ho : cOff n X S j = rm (X j) S := by unfold cOff; rw [if_pos ⟨hn1, hn2⟩]
        have hl : cLen n X N S j = rm (N j) (S - rm (X j) S) := by unfold cLen; rw [if_pos ⟨hn1, hn2⟩]
        have hk : knw n X N S (j + 1) = decide (cOff n X S j + cLen n X N S j = S) := by simp [knw, HF.out]
        rw [ho, hl] at hk
        have hrm := rm_le (X j) S
        have hrm2 := rm_le (N j) (S - rm (X j) S)
        have hq := rm_is (X j) S (by omega)
        have hq2 := rm_is (N j) (S - rm (X j) S) (by omega)
        obtain ⟨q, hqq⟩ : ∃ q, q = rm (X j) S := ⟨_, rfl⟩
        rw [← hqq] at hk hrm hrm2 hq hq2
        obtain ⟨p, hp⟩ : ∃ p, p = S - q := ⟨_, rfl⟩
        rw [← hp] at hk hrm2 hq2
        obtain ⟨q2, hqq2⟩ : ∃ q2, q2 = rm (N j) p := ⟨_, rfl⟩
        rw [← hqq2] at hk hrm2 hq2
        have hpe : (p : Int) = (S : Int) - (q : Int) := by omega
        rw [hpe] at hq2
        have g1 : ¬ (S : Int) - (q : Int) + 1 = 0 := by omega
        have HK := Lib.hid hk
        have HE : Hid (q ≤ S ∧ p = S - q ∧ q2 ≤ p) := ⟨hrm, hp, hrm2⟩
        have hqb2 : q2 ≤ 2000 := by omega
        clear hcells ho hl hk hqq hqq2 hrm2 hp hpe
        by_cases he : q + q2 = S
        · have de : ((q : Int) + (q2 : Int) == (S : Int)) = true := by simp; omega
          have HHE := Lib.hid he
          clear he
          go_wp2_with fail
          go_ret
          refine ⟨?_, Below.refl _ _⟩
          have := HK.out
          rw [decide_eq_true HHE.out] at this
          rw [knw_mono this (by omega)]
          rfl
        · have de : ((q : Int) + (q2 : Int) == (S : Int)) = false := by simp; omega
          have HHE := Lib.hid he
          clear he
          go_wp2_with fail
          go_roundw
          case rel =>
            have := HK.out
            rw [decide_eq_false HHE.out] at this
            exact ⟨j + 1, by go_num, by omega, this, by first | rfl | trivial⟩
          case measure => simp [intOf]; omega
      · by_cases h3 : n ≤ j
        · have d2 : decide ((n : Int) ≤ (j : Int)) = true := by simp; omega
          go_wp2_with fail
          go_ret
          refine ⟨?_, Below.refl _ _⟩
          rw [knw_mono (knw_end (k := j) (by omega)) (by omega)]
          rfl
        · have d2 : decide ((n : Int) ≤ (j : Int)) = false := by simp; omega
          have d3 : decide ((60 : Int) ≤ (j : Int)) = true := by simp; omega
          go_wp2_with fail
          go_ret
          refine ⟨?_, Below.refl _ _⟩
          rw [knw_mono (knw_end (k := j) (by omega)) (by omega)]
          rfl
    · have d1 : decide ((j : Int) ≤ i) = false := by simp; omega
      obtain rfl : j = i + 1 := by omega
      go_wp2_with fail
      go_ret
      refine ⟨?_, Below.refl _ _⟩
      rw [HF.out]
      rfl
end Go.Proofs.Ytjnekjjaofabeaa
