/-
  Plain numbers: modulo 2^255 - 19 the number 121665 / 121666 is no square, and each number, or it as often as that, is one: the ladder's laws hold there. No program in sight.
-/
import Derived.Test.YtikmghmapmlebaaQ
import Derived.Test.YtikmghmapmlebaaVd
namespace Go.Proofs.F255
open Go.Proofs.Ytikmghmapmlebaa.Ed

instance : NeZero p := ⟨by decide⟩

/-- A half, a quarter, an eighth. -/
def h2 : Nat := 28948022309329048855892746252171976963317496166410141009864396001978282409974
def h4 : Nat := 14474011154664524427946373126085988481658748083205070504932198000989141204987
def h8 : Nat := 7237005577332262213973186563042994240829374041602535252466099000494570602494
def dn : Nat := 20800338683988658368647408995589388737092878452977063003340006470870624536394
def im : Nat := 19681161376707505956807079304988542015446066515923890162744021073123829784752
theorem h2_eq : h2 + h2 = p - 1 := by decide
theorem h4_eq : h4 + h4 = h2 := by decide
theorem h8_eq : h8 + h8 = h4 + 1 := by decide
theorem im_eq : im * im % p = p - 1 := by decide +kernel
theorem pp_eq : (p - 1) * (p - 1) % p = 1 := by decide +kernel
theorem p_pos : 0 < p := by decide

theorem sq_one {t : Nat} (h : t * t % p = 1) : t % p = 1 ∨ t % p = p - 1 := by
  have hs : (t % p) * (t % p) % p = 1 := by rw [← Nat.mul_mod]; exact h
  have hlt : t % p < p := Nat.mod_lt _ p_pos
  generalize t % p = s at *
  by_cases s0 : s = 0
  · subst s0; simp at hs
  · have hd : p ∣ (s - 1) * (s + 1) := by
      have e : s * s = p * (s * s / p) + 1 := by have := Nat.div_add_mod (s * s) p; omega
      have e2 : (s - 1) * (s + 1) = s * s - 1 := by
        obtain ⟨r, rfl⟩ : ∃ r, s = r + 1 := ⟨s - 1, by omega⟩
        simp only [Nat.add_sub_cancel]
        have : (r + 1) * (r + 1) = r * (r + 1 + 1) + 1 := by
          simp only [Nat.mul_add, Nat.add_mul]; omega
        omega
      rw [e2, e]
      simp only [Nat.add_sub_cancel]
      exact ⟨_, rfl⟩
    rcases pr_p.euclid hd with h1 | h1
    · by_cases e : s - 1 = 0
      · left; omega
      · have := Nat.le_of_dvd (by omega) h1; omega
    · have := Nat.le_of_dvd (by omega) h1; right; omega

theorem root_of {x : Nat} (h : x ^ h2 % p = 1) : ∃ r, r * r % p = x % p := by
  have hq : x ^ h4 * x ^ h4 % p = 1 := by rw [← Nat.pow_add, h4_eq]; exact h
  have hr : x ^ h8 * x ^ h8 = x ^ h4 * x := by rw [← Nat.pow_add, h8_eq, Nat.pow_succ]
  generalize x ^ h8 = r at *
  generalize x ^ h4 = q at *
  rcases sq_one hq with e | e
  · exact ⟨r, by rw [hr, Nat.mul_mod, e, Nat.one_mul, Nat.mod_mod]⟩
  · refine ⟨r * im, ?_⟩
    have e1 : r * im * (r * im) = im * im * (q * x) := by rw [← hr]; simp [Nat.mul_comm, Nat.mul_left_comm]
    rw [e1, Nat.mul_mod, im_eq, Nat.mul_mod q x, e, Nat.mul_mod, Nat.mod_mod, ← Nat.mul_mod, ← Nat.mul_assoc, Nat.mul_mod, pp_eq, Nat.one_mul, Nat.mod_mod, Nat.mod_mod]

theorem d_pow : ∀ e, e = h2 → dn ^ e % p = p - 1 := fun e he => by
  rw [← pm_eq p 255 dn e (by rw [he]; decide), he]
  decide +kernel

/-- The field's inverse, as a power. -/
def h1 : Nat := p - 2
theorem h1_eq : p - 1 = h1 + 1 := by decide
def inv (a : Fin p) : Fin p := ⟨a.val ^ h1 % p, Nat.mod_lt _ p_pos⟩
def dF : Fin p := ⟨dn, by decide⟩

theorem val_ne {a : Fin p} (h : a ≠ 0) : a.val % p ≠ 0 := by
  rw [Nat.mod_eq_of_lt a.isLt]
  exact fun e => h (Fin.ext e)

theorem mul_pow_mod (x e : Nat) (h : x ^ (e + 1) % p = 1) : x * (x ^ e % p) % p = 1 := by
  rw [Nat.mul_mod, Nat.mod_mod, ← Nat.mul_mod, Nat.mul_comm, ← Nat.pow_succ, h]
theorem fmul_inv (a : Fin p) (h : a ≠ 0) : a * inv a = 1 := by
  have h1 : (1 : Fin p).val = 1 := by decide
  have hf := fermat a.val (val_ne h)
  rw [h1_eq] at hf
  exact Fin.ext ((Fin.val_mul _ _).trans ((mul_pow_mod _ _ hf).trans h1.symm))
theorem zero_pow_mod : ∀ a e : Nat, a = 0 → 0 < e → a ^ e % p = 0 := fun a e ha he => by rw [ha, Nat.zero_pow he, Nat.zero_mod]
theorem inv_val (a : Fin p) : (inv a).val = a.val ^ h1 % p := rfl
theorem finv0 : inv 0 = 0 := by
  have h0 : (0 : Fin p).val = 0 := by decide
  refine Fin.ext ?_
  rw [inv_val, zero_pow_mod _ _ h0 (by decide), h0]

theorem fnsq (s : Fin p) : s * s ≠ dF := fun h => by
  have hv : s.val * s.val % p = dn := by rw [← Fin.val_mul, h]; rfl
  have s0 : s ≠ 0 := fun e => by rw [e] at hv; revert hv; decide
  have hf := fermat s.val (val_ne s0)
  rw [← h2_eq] at hf
  have hd := d_pow h2 rfl
  rw [← hv, ← Nat.pow_mod, Nat.mul_pow, ← Nat.pow_add, hf] at hd
  exact absurd hd (by decide)

theorem fsq (g : Fin p) : (∃ r, r * r = g) ∨ (∃ r, r * r = g * dF) := by
  have lift : ∀ (x : Fin p) (y : Nat), x.val = y % p → y ^ h2 % p = 1 → ∃ r, r * r = x := fun x y hx hy => by
    obtain ⟨r, hr⟩ := root_of hy
    refine ⟨⟨r % p, Nat.mod_lt _ p_pos⟩, Fin.ext ?_⟩
    rw [Fin.val_mul, hx, ← hr]
    exact (Nat.mul_mod _ _ _).symm
  by_cases g0 : g = 0
  · exact .inl ⟨0, by rw [g0]; rfl⟩
  · have hf := fermat g.val (val_ne g0)
    rw [← h2_eq, Nat.pow_add] at hf
    rcases sq_one hf with e | e
    · exact .inl (lift g g.val (Nat.mod_eq_of_lt g.isLt).symm e)
    · refine .inr (lift (g * dF) (g.val * dn) (Fin.val_mul _ _) ?_)
      rw [Nat.mul_pow, Nat.mul_mod, e, d_pow h2 rfl]
      exact pp_eq

/-- The curve's number. -/
def kF : Fin p := ⟨121665, by decide⟩

theorem dk_eq : dF * (kF + 1) = kF := by decide +kernel

/-- The field and the curve. -/
def crv : Crv p kF dF where
  inv := inv
  mul_inv := fmul_inv
  one_ne := by decide
  two_ne := by decide
  inv0 := finv0
  k0 := by decide
  k1 := by decide
  dk := dk_eq
  nsq := fnsq
  sq := fsq
end Go.Proofs.F255
