/-
  Plain numbers: the sum of points is the same however it is put together; a point so many times. No program in sight.
-/
import Derived.Test.YtikmghmapmlebaaVa
namespace Go.Proofs.Ytikmghmapmlebaa.Ed
section
variable {n : Nat} [NeZero n]

theorem assoc_x (d x1 y1 x2 y2 x3 y3 : Fin n) (h1 : x1 * x1 + y1 * y1 = 1 + d * x1 * x1 * y1 * y1) (h2 : x2 * x2 + y2 * y2 = 1 + d * x2 * x2 * y2 * y2) (h3 : x3 * x3 + y3 * y3 = 1 + d * x3 * x3 * y3 * y3) :
    ((x1 * y2 + y1 * x2) * (1 - d * x1 * x2 * y1 * y2) * y3 + (y1 * y2 - x1 * x2) * (1 + d * x1 * x2 * y1 * y2) * x3) * ((1 + d * x2 * x3 * y2 * y3) * (1 - d * x2 * x3 * y2 * y3) + d * x1 * y1 * (x2 * y3 + y2 * x3) * (y2 * y3 - x2 * x3))
    = (x1 * (y2 * y3 - x2 * x3) * (1 + d * x2 * x3 * y2 * y3) + y1 * (x2 * y3 + y2 * x3) * (1 - d * x2 * x3 * y2 * y3)) * ((1 + d * x1 * x2 * y1 * y2) * (1 - d * x1 * x2 * y1 * y2) + d * (x1 * y2 + y1 * x2) * (y1 * y2 - x1 * x2) * x3 * y3) := by
  grind
theorem assoc_y (d x1 y1 x2 y2 x3 y3 : Fin n) (h1 : x1 * x1 + y1 * y1 = 1 + d * x1 * x1 * y1 * y1) (h2 : x2 * x2 + y2 * y2 = 1 + d * x2 * x2 * y2 * y2) (h3 : x3 * x3 + y3 * y3 = 1 + d * x3 * x3 * y3 * y3) :
    ((y1 * y2 - x1 * x2) * (1 + d * x1 * x2 * y1 * y2) * y3 - (x1 * y2 + y1 * x2) * (1 - d * x1 * x2 * y1 * y2) * x3) * ((1 + d * x2 * x3 * y2 * y3) * (1 - d * x2 * x3 * y2 * y3) - d * x1 * y1 * (x2 * y3 + y2 * x3) * (y2 * y3 - x2 * x3))
    = (y1 * (y2 * y3 - x2 * x3) * (1 + d * x2 * x3 * y2 * y3) - x1 * (x2 * y3 + y2 * x3) * (1 - d * x2 * x3 * y2 * y3)) * ((1 + d * x1 * x2 * y1 * y2) * (1 - d * x1 * x2 * y1 * y2) - d * (x1 * y2 + y1 * x2) * (y1 * y2 - x1 * x2) * x3 * y3) := by
  grind

theorem add_assoc (K : Fld n) {d : Fin n} (hd : ∀ s, s * s ≠ d) (P Q R : Pt d) : add K hd (add K hd P Q) R = add K hd P (add K hd Q R) := by
  have ax := assoc_x d P.x P.y Q.x Q.y R.x R.y P.on Q.on R.on
  have ay := assoc_y d P.x P.y Q.x Q.y R.x R.y P.on Q.on R.on
  have x12 := add_x K hd P Q
  have y12 := add_y K hd P Q
  have x23 := add_x K hd Q R
  have y23 := add_y K hd Q R
  have xL := add_x K hd (add K hd P Q) R
  have yL := add_y K hd (add K hd P Q) R
  have xR := add_x K hd P (add K hd Q R)
  have yR := add_y K hd P (add K hd Q R)
  have n1 := plus_ne K hd P Q
  have n2 := minus_ne K hd P Q
  have n3 := plus_ne K hd Q R
  have n4 := minus_ne K hd Q R
  have n5 := plus_ne K hd (add K hd P Q) R
  have n6 := minus_ne K hd (add K hd P Q) R
  have n7 := plus_ne K hd P (add K hd Q R)
  have n8 := minus_ne K hd P (add K hd Q R)
  generalize add K hd (add K hd P Q) R = U at *
  generalize add K hd P (add K hd Q R) = V at *
  generalize (add K hd P Q).x = a at *
  generalize (add K hd P Q).y = b at *
  generalize (add K hd Q R).x = c at *
  generalize (add K hd Q R).y = e at *
  obtain ⟨x1, y1, h1⟩ := P
  obtain ⟨x2, y2, h2⟩ := Q
  obtain ⟨x3, y3, h3⟩ := R
  simp only at *
  clear h1 h2 h3
  -- the four numbers below the line
  generalize hE : 1 + d * x1 * x2 * y1 * y2 = E1 at *
  generalize hE' : 1 - d * x1 * x2 * y1 * y2 = E2 at *
  generalize hF : 1 + d * x2 * x3 * y2 * y3 = F1 at *
  generalize hF' : 1 - d * x2 * x3 * y2 * y3 = F2 at *
  rw [← x12, ← y12, ← x23, ← y23] at ax ay
  have DL : E1 * E2 + d * (a * E1) * (b * E2) * x3 * y3 = (1 + d * a * x3 * b * y3) * (E1 * E2) := by clear ax ay x12 y12 x23 y23 xL yL xR yR; grind
  have DL' : E1 * E2 - d * (a * E1) * (b * E2) * x3 * y3 = (1 - d * a * x3 * b * y3) * (E1 * E2) := by clear ax ay x12 y12 x23 y23 xL yL xR yR; grind
  have DR : F1 * F2 + d * x1 * y1 * (c * F1) * (e * F2) = (1 + d * x1 * c * y1 * e) * (F1 * F2) := by clear ax ay x12 y12 x23 y23 xL yL xR yR; grind
  have DR' : F1 * F2 - d * x1 * y1 * (c * F1) * (e * F2) = (1 - d * x1 * c * y1 * e) * (F1 * F2) := by clear ax ay x12 y12 x23 y23 xL yL xR yR; grind
  rw [DL, DR] at ax
  rw [DL', DR'] at ay
  generalize hG : 1 + d * a * x3 * b * y3 = G1 at *
  generalize hG' : 1 - d * a * x3 * b * y3 = G2 at *
  generalize hH : 1 + d * x1 * c * y1 * e = H1 at *
  generalize hH' : 1 - d * x1 * c * y1 * e = H2 at *
  clear hE hE' hF hF' hG hG' hH hH' DL DL' DR DR' x12 y12 x23 y23
  have nE := K.ne n1 n2
  have nF := K.ne n3 n4
  refine Pt.ext (K.cancel (K.ne (K.ne n5 n7) (K.ne nE nF)) ?_) (K.cancel (K.ne (K.ne n6 n8) (K.ne nE nF)) ?_)
  · generalize U.x = u at *
    generalize V.x = v at *
    clear yL yR ay nE nF n1 n2 n3 n4 n5 n6 n7 n8
    have l : u * (G1 * H1 * (E1 * E2 * (F1 * F2))) = (a * y3 + b * x3) * (H1 * (E1 * E2 * (F1 * F2))) := by grind
    have r : v * (G1 * H1 * (E1 * E2 * (F1 * F2))) = (x1 * e + y1 * c) * (G1 * (E1 * E2 * (F1 * F2))) := by grind
    rw [l, r]
    clear l r xL xR
    grind
  · generalize U.y = u at *
    generalize V.y = v at *
    clear xL xR ax nE nF n1 n2 n3 n4 n5 n6 n7 n8
    have l : u * (G2 * H2 * (E1 * E2 * (F1 * F2))) = (b * y3 - a * x3) * (H2 * (E1 * E2 * (F1 * F2))) := by grind
    have r : v * (G2 * H2 * (E1 * E2 * (F1 * F2))) = (y1 * e - x1 * c) * (G2 * (E1 * E2 * (F1 * F2))) := by grind
    rw [l, r]
    clear l r yL yR
    grind

/-- A point so many times. -/
def mul (K : Fld n) {d : Fin n} (hd : ∀ s, s * s ≠ d) : Nat → Pt d → Pt d
  | 0, _ => nought d
  | k + 1, P => add K hd (mul K hd k P) P

theorem nought_add (K : Fld n) {d : Fin n} (hd : ∀ s, s * s ≠ d) (P : Pt d) : add K hd (nought d) P = P := by rw [add_comm, add_nought]
theorem mul_add (K : Fld n) {d : Fin n} (hd : ∀ s, s * s ≠ d) (P : Pt d) (a b : Nat) : mul K hd (a + b) P = add K hd (mul K hd a P) (mul K hd b P) := by
  induction b with
  | zero => simp [mul, add_nought]
  | succ b ih => show add K hd (mul K hd (a + b) P) P = _; rw [ih, add_assoc]; rfl
theorem mul_nought (K : Fld n) {d : Fin n} (hd : ∀ s, s * s ≠ d) (a : Nat) : mul K hd a (nought d) = nought d := by
  induction a with
  | zero => rfl
  | succ a ih => show add K hd (mul K hd a _) _ = _; rw [ih, add_nought]
theorem mul_mul (K : Fld n) {d : Fin n} (hd : ∀ s, s * s ≠ d) (P : Pt d) (a b : Nat) : mul K hd a (mul K hd b P) = mul K hd (a * b) P := by
  induction a with
  | zero => simp [mul]
  | succ a ih => show add K hd (mul K hd a _) _ = _; rw [ih, ← mul_add, Nat.succ_mul]
end
end Go.Proofs.Ytikmghmapmlebaa.Ed
