/-
  An element that is a number modulo p, and what add, sub and mul make of such; no condition.
-/
import Derived.Test.YtikmghmapmlebaaFf
import Derived.Test.YtikmghmapmlebaaFc
import Derived.Test.YtikmghmapmlebaaRd
namespace Go.Proofs.Ytikmghmapmlebaa
open Go.RowKit Go.Rh F255

/-- An element that is the number n modulo p. -/
structure IsEl (f : Nat → Nat) (n : Nat) : Prop where
  ok : okD f
  mod : val f % pN = n % pN

theorem carry_mod (f : Nat → Nat) : val (carryN f) % pN = val f % pN := by
  rw [val_carry]; unfold pN; omega

theorem val_add (a b : Nat → Nat) : val (addK a b 5) = val a + val b := by
  simp only [val, addK]; simp; omega
theorem val_sub (a b : Nat → Nat) (hb : okD b) : val (subK a b 5) + val b = val a + 4 * pN := by
  have h0 := hb 0 (by decide); have h1 := hb 1 (by decide); have h2 := hb 2 (by decide); have h3 := hb 3 (by decide); have h4 := hb 4 (by decide)
  simp only [val, subK, mostK, pN]; simp; omega

theorem isEl_add {a b : Nat → Nat} {m n : Nat} (ha : IsEl a m) (hb : IsEl b n) : IsEl (carryN (addK a b 5)) (m + n) := by
  refine ⟨carryN_lt _ fun j hj => ?_, ?_⟩
  · have := ha.ok j hj; have := hb.ok j hj; simp only [addK, if_pos hj]; omega
  · rw [carry_mod, val_add, Nat.add_mod, ha.mod, hb.mod, ← Nat.add_mod]
theorem isEl_sub {a b : Nat → Nat} {m n : Nat} (ha : IsEl a m) (hb : IsEl b n) (hn : n ≤ pN) : IsEl (carryN (subK a b 5)) (m + pN - n) := by
  refine ⟨carryN_lt _ fun j hj => ?_, ?_⟩
  · have := ha.ok j hj
    have h3 : mostK j ≤ 9007199254740988 := by unfold mostK; split <;> omega
    simp only [subK, if_pos hj]; omega
  · have h := val_sub a b hb.ok
    have h1 := ha.mod
    have h2 := hb.mod
    rw [carry_mod]
    unfold pN at *
    omega

theorem val_mulF (c : Nat → Nat) : val (mulF c) % pN = (c 0 + c 1 * 2251799813685248 + c 2 * 5070602400912917605986812821504 + c 3 * 11417981541647679048466287755595961091061972992 + c 4 * 25711008708143844408671393477458601640355247900524685364822016) % pN := by
  simp only [val, mulF, outD, ovS, pN]
  simp
  omega

theorem prod_cols (a b : Nat → Nat) : ∃ D, val a * val b = D * pN + val (accS a b 5) := by
  refine ⟨(a 1 * b 4 + a 2 * b 3 + a 3 * b 2 + a 4 * b 1) + (a 2 * b 4 + a 3 * b 3 + a 4 * b 2) * 2251799813685248 + (a 3 * b 4 + a 4 * b 3) * 5070602400912917605986812821504 + a 4 * b 4 * 11417981541647679048466287755595961091061972992, ?_⟩
  simp only [val, accS, rowS, tT, pN]
  simp [Nat.mul_add, Nat.add_mul]
  simp only [← Nat.mul_assoc, Nat.mul_right_comm _ _ (b _), Nat.mul_comm _ (b _)]
  omega

theorem isEl_mul {a b : Nat → Nat} {m n : Nat} (ha : IsEl a m) (hb : IsEl b n) : IsEl (carryN (mulF (accS a b 5))) (m * n) := by
  have hc : ∀ q, q < 5 → accS a b 5 q < 20769187434139310514121985316880384 := fun q hq => by
    have := accS_le ha.ok hb.ok q 5 (by omega); omega
  refine ⟨carryN_lt _ (mulF_lt hc), ?_⟩
  obtain ⟨D, hD⟩ := prod_cols a b
  rw [carry_mod, val_mulF]
  have h : val (accS a b 5) % pN = val a * val b % pN := by rw [hD, Nat.add_comm, Nat.add_mul_mod_self_right]
  rw [show (accS a b 5 0 + accS a b 5 1 * 2251799813685248 + accS a b 5 2 * 5070602400912917605986812821504 + accS a b 5 3 * 11417981541647679048466287755595961091061972992 + accS a b 5 4 * 25711008708143844408671393477458601640355247900524685364822016) = val (accS a b 5) from rfl, h, Nat.mul_mod, ha.mod, hb.mod, ← Nat.mul_mod]

theorem isEl_of {g : Nat → Nat} (_hg : ∀ j, j < 32 → g j < 256) : IsEl (chunk 51 (leN g 32) 255) (leN g 32 % 57896044618658097711785492504343953926634992332820282019728792003956564819968) := by
  refine ⟨fun j hj => Nat.lt_of_lt_of_le (Nat.mod_lt _ (by decide)) (by decide), ?_⟩
  have h := val_chunk (leN g 32 % 2 ^ 255) (Nat.mod_lt _ (by decide))
  have e : chunk 51 (leN g 32 % 2 ^ 255) 255 = chunk 51 (leN g 32) 255 := by
    funext q; unfold chunk; rw [Nat.mod_mod]
  rw [e] at h
  rw [h]

theorem top_mod {g : Nat → Nat} (h : small g) : val (topF g) % 2 ^ 255 = val g % pN := by
  have h0 := h 0 (by decide); have h1 := h 1 (by decide); have h2 := h 2 (by decide); have h3 := h 3 (by decide); have h4 := h 4 (by decide)
  have e1 : topO g = (val g + 19) / 57896044618658097711785492504343953926634992332820282019728792003956564819968 := by
    simp only [val, topO]; omega
  have e2 : val (topF g) = val g + 19 * topO g := by
    simp only [val, topF]; simp; omega
  have e3 := val_small h
  rw [e2]
  simp only [pN, Nat.reducePow]
  have e4 : topO g = 0 ∨ topO g = 1 := by omega
  rcases e4 with e4 | e4 <;> rw [e4] at e1 ⊢ <;> omega

/-- What Bytes hands back. -/
theorem bytes_of {f : Nat → Nat} {n : Nat} (h : IsEl f n) : (fun j => chunk 8 (val (topF (carryN (carryN (carryN f)))) % 2 ^ 255) 255 j) = fun j => n % pN / 256 ^ j % 256 := by
  have hs : small (carryN (carryN (carryN f))) := carry_twice (carryN f) fun j hj => Nat.lt_trans (carryN_lt f (fun j hj => Nat.lt_trans (h.ok j hj) (by decide)) j hj) (by decide)
  funext j
  rw [top_mod hs, carry_mod, carry_mod, carry_mod, h.mod]
  unfold chunk
  have h1 : n % pN < 2 ^ 255 := Nat.lt_trans (Nat.mod_lt _ (by decide)) (by decide)
  rw [Nat.mod_eq_of_lt h1, show (2 : Nat) ^ (8 * j) = 256 ^ j by rw [Nat.pow_mul]]
end Go.Proofs.Ytikmghmapmlebaa
