/-
  Plain numbers: what Fermat's law says of the power p - 2; strings of 32 bytes tell their number. No program in sight.
-/
import Derived.Test.YtikmghmapmlebaaQ
import Derived.Test.YtikmghmapmlebaaPk
namespace Go.Proofs.Ytikmghmapmlebaa
open Go.RowKit Go.Rh F255

theorem p_eq : p = pN := by decide
theorem inv_nought {x : Nat} (h : x % pN = 0) : x ^ (pN - 2) % pN = 0 := by
  rw [Nat.pow_mod, h, Nat.zero_pow (by decide), Nat.zero_mod]
theorem inv_mul {x : Nat} (h : x % pN ≠ 0) : x * x ^ (pN - 2) % pN = 1 := by
  have := fermat x (by rw [p_eq]; exact h)
  rw [p_eq] at this
  rw [Nat.mul_comm, ← Nat.pow_succ]
  exact this
theorem inv_inv {x : Nat} (h : x % pN ≠ 0) : (x ^ (pN - 2)) ^ (pN - 2) % pN = x % pN := by
  have hf := fermat x (by rw [p_eq]; exact h)
  rw [p_eq] at hf
  have e : (pN - 2) * (pN - 2) = (pN - 1) * (pN - 3) + 1 := by decide
  rw [← Nat.pow_mul, e, Nat.pow_succ, Nat.pow_mul, Nat.mul_mod, Nat.pow_mod, hf, Nat.one_pow, ← Nat.mul_mod, Nat.one_mul]

theorem leN_le32 : ∀ (n x : Nat), x < 256 ^ n → leN (fun j => x / 256 ^ j % 256) n = x := by
  intro n
  induction n with
  | zero => intro x h; simp at h; simp [leN, h]
  | succ n ih =>
    intro x h
    have h1 := ih (x % 256 ^ n) (Nat.mod_lt _ (Nat.pow_pos (by decide)))
    have e : leN (fun j => x / 256 ^ j % 256) n = leN (fun j => x % 256 ^ n / 256 ^ j % 256) n := leN_congr fun j hj => by
      rw [show n = j + ((n - j - 1) + 1) by omega, Nat.pow_add, Nat.mod_mul_right_div_self, Nat.pow_succ, Nat.mul_comm (256 ^ (n - j - 1)) 256, Nat.mod_mul_right_mod]
    simp only [leN]
    rw [e, h1]
    have h2 : x / 256 ^ n % 256 = x / 256 ^ n := Nat.mod_eq_of_lt (Nat.div_lt_of_lt_mul (by rw [← Nat.pow_succ]; exact h))
    rw [h2]
    have := Nat.div_add_mod x (256 ^ n)
    first | omega | (rw [Nat.mul_comm]; omega) | (rw [Nat.add_comm, Nat.mul_comm]; omega)

theorem le32_inj {x y : Nat} (hx : x < Two256) (hy : y < Two256) (h : le32 x = le32 y) : x = y := by
  have hl : ∀ j, j < 32 → x / 256 ^ j % 256 = y / 256 ^ j % 256 := by
    intro j hj
    have h1 : (bstr (fun j => x / 256 ^ j % 256) 32).data[j]? = (bstr (fun j => y / 256 ^ j % 256) 32).data[j]? := by
      have : le32 x = le32 y := h
      unfold le32 at this
      rw [this]
    simp [bstr, hj] at h1
    have h2 := congrArg UInt8.toNat h1
    simp at h2
    exact h2
  have e1 := leN_le32 32 x (Nat.lt_of_lt_of_eq hx (by decide))
  have e2 := leN_le32 32 y (Nat.lt_of_lt_of_eq hy (by decide))
  rw [← e1, ← e2]
  exact leN_congr hl
end Go.Proofs.Ytikmghmapmlebaa
