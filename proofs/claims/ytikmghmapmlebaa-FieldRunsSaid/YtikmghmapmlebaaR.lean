/-
  Plain numbers: the reference's rows of 32 digits: carried, compared with p, less p. No program in sight.
-/
import Derived.Test.YtikmghmapmlebaaN
namespace Go.Proofs.F255

/-- The number of n digits, the lowest first. -/
def NI (f : Nat → Int) : Nat → Int
  | 0 => 0
  | n + 1 => NI f n + f n * 256 ^ n

def P25 : Int := 57896044618658097711785492504343953926634992332820282019728792003956564819949

theorem NI_congr {f g : Nat → Int} : ∀ {n : Nat}, (∀ j, j < n → f j = g j) → NI f n = NI g n
  | 0, _ => rfl
  | n + 1, e => by simp only [NI]; rw [NI_congr fun j hj => e j (by omega), e n (by omega)]

theorem NI_add (f g : Nat → Int) : ∀ n, NI (fun j => f j + g j) n = NI f n + NI g n
  | 0 => rfl
  | n + 1 => by simp only [NI]; rw [NI_add f g n, Int.add_mul]; omega

theorem pow256_pos (n : Nat) : (0 : Int) < 256 ^ n := Int.pow_pos (by decide)

theorem NI_nonneg {f : Nat → Int} : ∀ {n : Nat}, (∀ j, j < n → 0 ≤ f j) → 0 ≤ NI f n
  | 0, _ => by simp [NI]
  | n + 1, h => by
    have h1 := NI_nonneg (n := n) fun j hj => h j (by omega)
    have h2 := Int.mul_nonneg (h n (by omega)) (Int.le_of_lt (pow256_pos n))
    simp only [NI]; omega

theorem NI_lt {f : Nat → Int} : ∀ {n : Nat}, (∀ j, j < n → 0 ≤ f j ∧ f j < 256) → NI f n < 256 ^ n
  | 0, _ => by simp [NI]
  | n + 1, h => by
    have h1 := NI_lt (n := n) fun j hj => h j (by omega)
    have h2 := (h n (by omega)).2
    have h3 : f n * 256 ^ n ≤ 255 * 256 ^ n := Int.mul_le_mul_of_nonneg_right (by omega) (Int.le_of_lt (pow256_pos n))
    simp only [NI, Int.pow_succ]; omega

/-- What is carried over, and what stays, digit by digit. -/
def ovf (f : Nat → Int) : Nat → Int
  | 0 => 0
  | i + 1 => (f i + ovf f i) / 256
def dgf (f : Nat → Int) (i : Nat) : Int := (f i + ovf f i) % 256
def passF (f : Nat → Int) (j : Nat) : Int := dgf f j + if j = 0 then 38 * ovf f 32 else 0

theorem pass_sum (f : Nat → Int) : ∀ i, NI (dgf f) i + ovf f i * 256 ^ i = NI f i
  | 0 => by simp [NI, ovf]
  | i + 1 => by
    have h := pass_sum f i
    have e := Int.mul_ediv_add_emod (f i + ovf f i) 256
    have h2 : (256 * ((f i + ovf f i) / 256) + (f i + ovf f i) % 256) * 256 ^ i = (f i + ovf f i) * 256 ^ i := by rw [e]
    simp only [NI, ovf, dgf, Int.pow_succ] at *
    rw [Int.add_mul, Int.add_mul] at h2
    have h3 : (f i + ovf f i) / 256 * (256 ^ i * 256) = 256 * ((f i + ovf f i) / 256) * 256 ^ i := by
      rw [Int.mul_comm 256, Int.mul_assoc, Int.mul_comm 256]
    rw [h3]
    omega

theorem dgf_bd (f : Nat → Int) (i : Nat) : 0 ≤ dgf f i ∧ dgf f i < 256 := by unfold dgf; omega

theorem NI_pass (f : Nat → Int) : ∀ n, 0 < n → NI (passF f) n = NI (dgf f) n + 38 * ovf f 32
  | 0, h => by omega
  | 1, _ => by simp [NI, passF]
  | n + 2, _ => by
    have h := NI_pass f (n + 1) (by omega)
    have e1 : NI (passF f) (n + 2) = NI (passF f) (n + 1) + passF f (n + 1) * 256 ^ (n + 1) := rfl
    have e2 : NI (dgf f) (n + 2) = NI (dgf f) (n + 1) + dgf f (n + 1) * 256 ^ (n + 1) := rfl
    have : passF f (n + 1) = dgf f (n + 1) := by simp [passF]
    rw [e1, e2, h, this]
    omega

/-- The digits that a pass leaves: each below 256, but for the lowest, which bears 38 times what went over. -/
structure Passed (f : Nat → Int) (o : Int) : Prop where
  up : ∀ j, 0 < j → 0 ≤ f j ∧ f j < 256
  low : 0 ≤ f 0 - 38 * o ∧ f 0 - 38 * o < 256

def T256 : Int := 115792089237316195423570985008687907853269984665640564039457584007913129639936
theorem t256 : (256 : Int) ^ 32 = T256 := by decide

theorem passed (f : Nat → Int) : Passed (passF f) (ovf f 32) ∧ ovf f 32 = NI f 32 / T256 ∧ NI (passF f) 32 = NI f 32 % T256 + 38 * (NI f 32 / T256) := by
  have h := pass_sum f 32
  have h1 := NI_lt (n := 32) fun j _ => dgf_bd f j
  have h2 := NI_nonneg (n := 32) fun j _ => (dgf_bd f j).1
  have h3 := NI_pass f 32 (by decide)
  rw [t256] at h h1
  unfold T256 at *
  have e : ovf f 32 = NI f 32 / 115792089237316195423570985008687907853269984665640564039457584007913129639936 := by omega
  refine ⟨⟨fun j hj => ?_, ?_⟩, e, by omega⟩
  · have := dgf_bd f j
    unfold passF; rw [if_neg (by omega)]; omega
  · have := dgf_bd f 0
    unfold passF; rw [if_pos rfl]; omega

/-- r passes. -/
def passR (f : Nat → Int) : Nat → Nat → Int
  | 0 => f
  | r + 1 => passF (passR f r)

theorem pass_small {f : Nat → Int} (hf : ∀ j, j < 32 → -1099511627776 ≤ f j ∧ f j ≤ 1099511627776) : ∀ i, i ≤ 32 → -8589934592 ≤ ovf f i ∧ ovf f i ≤ 8589934592
  | 0, _ => by simp [ovf]
  | i + 1, h => by
    have h1 := pass_small hf i (by omega)
    have h2 := hf i (by omega)
    simp only [ovf]; omega

/-- What six passes leave. -/
theorem passes {f : Nat → Int} (h0 : 0 ≤ NI f 32) (h1 : NI f 32 < 8589934592 * T256) :
    (∀ j, 0 ≤ passR f 6 j ∧ passR f 6 j < 256) ∧ NI (passR f 6) 32 % P25 = NI f 32 % P25 ∧
    (∀ r, 1 ≤ r → ∀ j, 0 ≤ passR f r j ∧ passR f r j ≤ 1099511627776) := by
  have p1 := passed f
  have p2 := passed (passF f)
  have p3 := passed (passF (passF f))
  have p4 := passed (passF (passF (passF f)))
  have p5 := passed (passF (passF (passF (passF f))))
  have p6 := passed (passF (passF (passF (passF (passF f)))))
  have g : ∀ (f : Nat → Int) (o : Int), Passed f o → 0 ≤ o → o ≤ 8589934592 → ∀ j, 0 ≤ f j ∧ f j ≤ 1099511627776 := by
    intro f o h a b j
    by_cases e : j = 0
    · subst e; have := h.low; omega
    · have := h.up j (by omega); omega
  have q : ∀ (f : Nat → Int), Passed f 0 → ∀ j, 0 ≤ f j ∧ f j < 256 := by
    intro f h j
    by_cases e : j = 0
    · subst e; have := h.low; omega
    · exact h.up j (by omega)
  unfold T256 at *
  have o1 : 0 ≤ NI f 32 / 115792089237316195423570985008687907853269984665640564039457584007913129639936 ∧ NI f 32 / 115792089237316195423570985008687907853269984665640564039457584007913129639936 < 8589934592 := by omega
  have o2 : 0 ≤ NI (passF f) 32 / 115792089237316195423570985008687907853269984665640564039457584007913129639936 ∧ NI (passF f) 32 / 115792089237316195423570985008687907853269984665640564039457584007913129639936 ≤ 1 := by omega
  have n3 : 0 ≤ NI (passF (passF f)) 32 ∧ NI (passF (passF f)) 32 < 115792089237316195423570985008687907853269984665640564039457584007913129639936 := by omega
  have n4 : NI (passF (passF (passF f))) 32 = NI (passF (passF f)) 32 := by omega
  have n5 : NI (passF (passF (passF (passF f)))) 32 = NI (passF (passF f)) 32 := by omega
  have n6 : NI (passF (passF (passF (passF (passF f))))) 32 = NI (passF (passF f)) 32 := by omega
  have n7 : NI (passF (passF (passF (passF (passF (passF f)))))) 32 = NI (passF (passF f)) 32 := by omega
  have z : ovf (passF (passF (passF (passF (passF f))))) 32 = 0 := by omega
  have modp : ∀ x y z : Int, z = x % 115792089237316195423570985008687907853269984665640564039457584007913129639936 + 38 * (x / 115792089237316195423570985008687907853269984665640564039457584007913129639936) → z % P25 = x % P25 := by
    intro x y z h; unfold P25; omega
  refine ⟨q _ (by have := p6.1; rw [z] at this; exact this), ?_, ?_⟩
  · show NI (passF (passF (passF (passF (passF (passF f)))))) 32 % P25 = _
    rw [n7, modp _ 0 _ p2.2.2, modp _ 0 _ p1.2.2]
  · intro r hr
    induction r with
    | zero => omega
    | succ r _ =>
      match r with
      | 0 => exact g _ _ p1.1 (by omega) (by omega)
      | 1 => exact g _ _ p2.1 (by omega) (by omega)
      | 2 => exact g _ _ p3.1 (by omega) (by omega)
      | r + 3 =>
        have key : ∀ k, 0 ≤ NI (passR f (k + 2)) 32 ∧ NI (passR f (k + 2)) 32 < 115792089237316195423570985008687907853269984665640564039457584007913129639936 := by
          intro k
          induction k with
          | zero => exact n3
          | succ k ih =>
            have p := (passed (passR f (k + 2))).2.2
            unfold T256 at p
            show 0 ≤ NI (passF (passR f (k + 2))) 32 ∧ NI (passF (passR f (k + 2))) 32 < _
            omega
        have p := passed (passR f (r + 3))
        have k : 0 ≤ NI (passR f (r + 3)) 32 ∧ NI (passR f (r + 3)) 32 < 115792089237316195423570985008687907853269984665640564039457584007913129639936 := key (r + 1)
        unfold T256 at p
        exact g _ _ p.1 (by omega) (by omega)

/-- p's digits. -/
def pD (j : Nat) : Int := if j = 0 then 237 else if j = 31 then 127 else 255
theorem pD_bd (j : Nat) : 0 ≤ pD j ∧ pD j < 256 := by unfold pD; split <;> (try split) <;> omega
theorem NI_pD : NI pD 32 = P25 := by decide +kernel

theorem NI_below {f g : Nat → Int} {i : Nat} (hf : ∀ j, j < i → 0 ≤ f j ∧ f j < 256) (hg : ∀ j, j < i → 0 ≤ g j) (h : f i < g i) : NI f (i + 1) < NI g (i + 1) := by
  have h1 := NI_lt hf
  have h2 := NI_nonneg hg
  have h3 : (f i + 1) * 256 ^ i ≤ g i * 256 ^ i := Int.mul_le_mul_of_nonneg_right (by omega) (Int.le_of_lt (pow256_pos i))
  rw [Int.add_mul] at h3
  simp only [NI]; omega

theorem NI_above {f g : Nat → Int} {i : Nat} : ∀ n, i ≤ n → (∀ j, i ≤ j → j < n → f j = g j) → NI f n - NI g n = NI f i - NI g i
  | 0, h, _ => by have : i = 0 := by omega
                  subst this; rfl
  | n + 1, h, e => by
    by_cases hi : i = n + 1
    · subst hi; rfl
    · have ih := NI_above (f := f) (g := g) n (by omega) fun j a b => e j a (by omega)
      have := e n (by omega) (by omega)
      simp only [NI]; rw [this]; omega

/-- The borrow, and what stays. -/
def brf (f : Nat → Int) : Nat → Int
  | 0 => 0
  | i + 1 => if f i - pD i - brf f i < 0 then 1 else 0
def sbf (f : Nat → Int) (i : Nat) : Int := f i - pD i - brf f i + 256 * brf f (i + 1)

theorem brf_bd (f : Nat → Int) : ∀ i, 0 ≤ brf f i ∧ brf f i ≤ 1
  | 0 => by simp [brf]
  | i + 1 => by simp only [brf]; split <;> omega
theorem sbf_bd {f : Nat → Int} {i : Nat} (h : 0 ≤ f i ∧ f i < 256) : 0 ≤ sbf f i ∧ sbf f i < 256 := by
  have h1 := brf_bd f i
  have h2 := pD_bd i
  simp only [sbf, brf]; split <;> omega
theorem sub_sum (f : Nat → Int) : ∀ i, NI (sbf f) i = NI f i - NI pD i + brf f i * 256 ^ i
  | 0 => by simp [NI, brf]
  | i + 1 => by
    have h := sub_sum f i
    simp only [NI, sbf, Int.pow_succ]
    rw [h, Int.add_mul, Int.sub_mul, Int.sub_mul]
    have : 256 * brf f (i + 1) * 256 ^ i = brf f (i + 1) * (256 ^ i * 256) := by rw [Int.mul_comm 256, Int.mul_assoc, Int.mul_comm 256]
    omega
theorem sub_all {f : Nat → Int} (hf : ∀ j, j < 32 → 0 ≤ f j ∧ f j < 256) (h : P25 ≤ NI f 32) : NI (sbf f) 32 = NI f 32 - P25 := by
  have h1 := sub_sum f 32
  have h2 := NI_lt (n := 32) (f := sbf f) fun j hj => sbf_bd (hf j hj)
  have h3 := brf_bd f 32
  rw [NI_pD] at h1
  rw [t256] at h1 h2
  unfold T256 at *
  unfold P25 at *
  omega

/-- How often p is taken away: the digits behind r rounds. -/
def redR (f : Nat → Int) : Nat → Nat → Int
  | 0 => f
  | r + 1 => if NI (redR f r) 32 < P25 then redR f r else sbf (redR f r)

theorem redR_all {f : Nat → Int} (hf : ∀ j, j < 32 → 0 ≤ f j ∧ f j < 256) : ∀ r, (∀ j, j < 32 → 0 ≤ redR f r j ∧ redR f r j < 256) ∧ NI (redR f r) 32 % P25 = NI f 32 % P25 ∧
    (NI (redR f r) 32 < P25 ∨ NI (redR f r) 32 = NI f 32 - r * P25)
  | 0 => ⟨hf, rfl, .inr (by simp [redR])⟩
  | r + 1 => by
    obtain ⟨h1, h2, h3⟩ := redR_all hf r
    simp only [redR]
    by_cases h : NI (redR f r) 32 < P25
    · rw [if_pos h]; exact ⟨h1, h2, .inl h⟩
    · rw [if_neg h]
      have h4 := sub_all h1 (by omega)
      refine ⟨fun j hj => sbf_bd (h1 j hj), ?_, ?_⟩
      · rw [h4, ← h2]; unfold P25; omega
      · right
        rcases h3 with h3 | h3
        · omega
        · rw [h4, h3]; unfold P25; omega

theorem redR_three {f : Nat → Int} (hf : ∀ j, j < 32 → 0 ≤ f j ∧ f j < 256) : NI (redR f 3) 32 = NI f 32 % P25 := by
  obtain ⟨h1, h2, h3⟩ := redR_all hf 3
  have h4 := NI_lt hf
  have h5 := NI_nonneg (n := 32) fun j hj => (h1 j hj).1
  rw [t256] at h4
  unfold T256 at h4
  unfold P25 at *
  omega
end Go.Proofs.F255
