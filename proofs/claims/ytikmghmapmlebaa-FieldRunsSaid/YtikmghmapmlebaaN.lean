/-
  Plain numbers: a number's bytes and digits, bit by bit. No program in sight.
-/
namespace Go.Proofs.F255

/-- The number of n bytes, the lowest first. -/
def leN (g : Nat → Nat) : Nat → Nat
  | 0 => 0
  | n + 1 => leN g n + g n * 256 ^ n

theorem leN_lt {g : Nat → Nat} : ∀ {n : Nat}, (∀ j, j < n → g j < 256) → leN g n < 256 ^ n
  | 0, _ => by simp [leN]
  | n + 1, h => by
    have h1 := leN_lt (n := n) fun j hj => h j (by omega)
    have h2 := h n (by omega)
    have : g n * 256 ^ n ≤ 255 * 256 ^ n := Nat.mul_le_mul_right _ (by omega)
    simp only [leN, Nat.pow_succ]
    omega

theorem leN_digit {g : Nat → Nat} : ∀ {n : Nat}, (∀ j, j < n → g j < 256) → ∀ j, j < n → leN g n / 256 ^ j % 256 = g j
  | 0, _, j, hj => by omega
  | n + 1, h, j, hj => by
    have h1 := leN_lt (n := n) fun j hj => h j (by omega)
    simp only [leN]
    by_cases e : j = n
    · subst e
      rw [Nat.add_mul_div_right _ _ (Nat.pow_pos (by decide)), Nat.div_eq_of_lt h1, Nat.zero_add]
      exact Nat.mod_eq_of_lt (h j hj)
    · have hlt : j < n := by omega
      have e2 : g n * 256 ^ n = (g n * 256 ^ (n - j - 1)) * 256 * 256 ^ j := by
        rw [Nat.mul_assoc, Nat.mul_assoc, ← Nat.pow_succ', ← Nat.pow_add]
        congr 2; omega
      rw [e2, Nat.add_mul_div_right _ _ (Nat.pow_pos (by decide)), Nat.add_mul_mod_self_right]
      exact leN_digit (fun j hj => h j (by omega)) j hlt

theorem leN_congr {g h : Nat → Nat} : ∀ {n : Nat}, (∀ j, j < n → g j = h j) → leN g n = leN h n
  | 0, _ => rfl
  | n + 1, e => by simp only [leN]; rw [leN_congr fun j hj => e j (by omega), e n (by omega)]

theorem bit_of_mod {m w r : Nat} (h : r < w) : m % 2 ^ w / 2 ^ r % 2 = m / 2 ^ r % 2 := by
  have e2 : m / 2 ^ r % 2 = m % 2 ^ (r + 1) / 2 ^ r := by
    rw [Nat.pow_succ, Nat.mod_mul_right_div_self]
  have e3 (x : Nat) : x / 2 ^ r % 2 = x % 2 ^ (r + 1) / 2 ^ r := by
    rw [Nat.pow_succ, Nat.mod_mul_right_div_self]
  rw [e2, e3, Nat.mod_mod_of_dvd]
  exact ⟨2 ^ (w - (r + 1)), by rw [← Nat.pow_add]; congr 1; omega⟩

/-- A bit of the number is its byte's. -/
theorem leN_bit {g : Nat → Nat} {n : Nat} (h : ∀ j, j < n → g j < 256) (k : Nat) (hk : k < 8 * n) : leN g n / 2 ^ k % 2 = g (k / 8) / 2 ^ (k % 8) % 2 := by
  have e1 : 2 ^ k = 256 ^ (k / 8) * 2 ^ (k % 8) := by
    rw [show (256 : Nat) = 2 ^ 8 by decide, ← Nat.pow_mul, ← Nat.pow_add]
    congr 1; omega
  have hr : k % 8 < 8 := Nat.mod_lt _ (by decide)
  rw [e1, ← Nat.div_div_eq_div_mul, ← leN_digit h (k / 8) (by omega)]
  exact (bit_of_mod (w := 8) hr).symm

/-- The q-th digit of w bits of a number's lowest i bits. -/
def chunk (w n i q : Nat) : Nat := n % 2 ^ i / 2 ^ (w * q) % 2 ^ w

theorem chunk_zero (w n q : Nat) : chunk w n 0 q = 0 := by simp [chunk, Nat.mod_one]

theorem mod_succ (n i : Nat) : n % 2 ^ (i + 1) = n % 2 ^ i + n / 2 ^ i % 2 * 2 ^ i := by
  rw [Nat.pow_succ, Nat.mod_mul, Nat.mul_comm (2 ^ i)]

theorem chunk_lt {w n i : Nat} (_hw : 0 < w) : chunk w n i (i / w) < 2 ^ (i % w) := by
  have e : 2 ^ i = 2 ^ (w * (i / w)) * 2 ^ (i % w) := by rw [← Nat.pow_add, Nat.div_add_mod]
  have h1 : n % 2 ^ i < 2 ^ i := Nat.mod_lt _ (Nat.two_pow_pos _)
  unfold chunk
  refine Nat.lt_of_le_of_lt (Nat.mod_le _ _) ?_
  rw [Nat.div_lt_iff_lt_mul (Nat.two_pow_pos _), Nat.mul_comm, ← e]
  exact h1

theorem chunk_here {w n i : Nat} (hw : 0 < w) : chunk w n (i + 1) (i / w) = chunk w n i (i / w) + n / 2 ^ i % 2 * 2 ^ (i % w) := by
  have e : 2 ^ i = 2 ^ (i % w) * 2 ^ (w * (i / w)) := by rw [← Nat.pow_add, Nat.mod_add_div]
  have h1 : n % 2 ^ i / 2 ^ (w * (i / w)) < 2 ^ (i % w) := by
    rw [Nat.div_lt_iff_lt_mul (Nat.two_pow_pos _), ← e]
    exact Nat.mod_lt _ (Nat.two_pow_pos _)
  have hr : i % w < w := Nat.mod_lt _ hw
  have hp : 2 ^ (i % w + 1) ≤ 2 ^ w := Nat.pow_le_pow_right (by decide) (by omega)
  have hb : n / 2 ^ i % 2 * 2 ^ (i % w) ≤ 1 * 2 ^ (i % w) := Nat.mul_le_mul_right _ (by omega)
  unfold chunk
  rw [mod_succ, e, ← Nat.mul_assoc, Nat.add_mul_div_right _ _ (Nat.two_pow_pos _), ← e]
  rw [Nat.pow_succ] at hp
  rw [Nat.mod_eq_of_lt (a := n % 2 ^ i / 2 ^ (w * (i / w))) (by omega), Nat.mod_eq_of_lt (by omega)]

theorem chunk_there {w n i q : Nat} (hw : 0 < w) (hq : q ≠ i / w) : chunk w n (i + 1) q = chunk w n i q := by
  unfold chunk
  rcases Nat.lt_or_gt_of_ne hq with h | h
  · have h2 : w * (q + 1) ≤ i := Nat.le_trans (Nat.mul_le_mul_left w h) (Nat.mul_div_le i w)
    have e : 2 ^ i = 2 ^ (i - w * (q + 1)) * 2 ^ w * 2 ^ (w * q) := by
      rw [← Nat.pow_add, ← Nat.pow_add]; congr 1; rw [Nat.mul_succ] at h2 ⊢; omega
    rw [mod_succ]
    conv => lhs; rw [e]
    rw [← Nat.mul_assoc, Nat.add_mul_div_right _ _ (Nat.two_pow_pos _), ← Nat.mul_assoc, Nat.add_mul_mod_self_right, ← e]
  · have h2 : i + 1 ≤ w * q := by
      have := Nat.lt_mul_div_succ i hw
      have : w * (i / w + 1) ≤ w * q := Nat.mul_le_mul_left w h
      omega
    have b1 : n % 2 ^ (i + 1) < 2 ^ (w * q) := Nat.lt_of_lt_of_le (Nat.mod_lt _ (Nat.two_pow_pos _)) (Nat.pow_le_pow_right (by decide) h2)
    have b2 : n % 2 ^ i < 2 ^ (w * q) := Nat.lt_of_lt_of_le (Nat.mod_lt _ (Nat.two_pow_pos _)) (Nat.pow_le_pow_right (by decide) (by omega))
    rw [Nat.div_eq_of_lt b1, Nat.div_eq_of_lt b2]

/-- A number's five digits of 51 bits. -/
def val (f : Nat → Nat) : Nat := f 0 + f 1 * 2251799813685248 + f 2 * 5070602400912917605986812821504 + f 3 * 11417981541647679048466287755595961091061972992 + f 4 * 25711008708143844408671393477458601640355247900524685364822016

theorem val_chunk (n : Nat) (_ : n < 2 ^ 255) : val (chunk 51 n 255) = n := by
  unfold val chunk
  simp only [Nat.mul_zero, Nat.pow_zero, Nat.div_one, Nat.mul_one, Nat.reduceMul, Nat.reducePow] at *
  omega

/-- A digit, of a bit. -/
theorem val_bit (f : Nat → Nat) (h : ∀ j, j < 5 → f j < 2251799813685248) (i : Nat) (hi : i < 255) : val f / 2 ^ i % 2 = f (i / 51) / 2 ^ (i % 51) % 2 := by
  have h0 := h 0 (by decide); have h1 := h 1 (by decide); have h2 := h 2 (by decide); have h3 := h 3 (by decide); have h4 := h 4 (by decide)
  have key : val f / 2 ^ (51 * (i / 51)) % 2 ^ 51 = f (i / 51) := by
    have : i / 51 = 0 ∨ i / 51 = 1 ∨ i / 51 = 2 ∨ i / 51 = 3 ∨ i / 51 = 4 := by omega
    unfold val
    rcases this with e | e | e | e | e <;> rw [e] <;> simp only [Nat.mul_zero, Nat.pow_zero, Nat.div_one, Nat.mul_one, Nat.reduceMul, Nat.reducePow] <;> omega
  have e1 : 2 ^ i = 2 ^ (51 * (i / 51)) * 2 ^ (i % 51) := by rw [← Nat.pow_add, Nat.div_add_mod]
  have hr : i % 51 < 51 := Nat.mod_lt _ (by decide)
  rw [e1, ← Nat.div_div_eq_div_mul, ← key]
  exact (bit_of_mod (w := 51) hr).symm

end Go.Proofs.F255
