/-
  Plain numbers: the points of x^2 + y^2 = 1 + d x^2 y^2 modulo n, where each number but nought has an inverse and d is no square: they are a commutative group. No program in sight.
-/
namespace Go.Proofs.Ytikmghmapmlebaa.Ed

/-- Each number but nought has an inverse; 2 is not nought. -/
structure Fld (n : Nat) [NeZero n] where
  inv : Fin n → Fin n
  mul_inv : ∀ a, a ≠ 0 → a * inv a = 1
  one_ne : (1 : Fin n) ≠ 0
  two_ne : (2 : Fin n) ≠ 0

section
variable {n : Nat} [NeZero n]

theorem Fld.dom (K : Fld n) {a b : Fin n} (h : a * b = 0) : a = 0 ∨ b = 0 := by
  by_cases ha : a = 0
  · exact .inl ha
  · right
    have h1 := K.mul_inv a ha
    grind

theorem Fld.ne (K : Fld n) {a b : Fin n} (ha : a ≠ 0) (hb : b ≠ 0) : a * b ≠ 0 := fun h => by
  rcases K.dom h with e | e
  · exact ha e
  · exact hb e

theorem Fld.cancel (K : Fld n) {a b c : Fin n} (hc : c ≠ 0) (h : a * c = b * c) : a = b := by
  have h1 := K.mul_inv c hc
  grind

/-- A point. -/
structure Pt (d : Fin n) where
  x : Fin n
  y : Fin n
  on : x * x + y * y = 1 + d * x * x * y * y

theorem Pt.ext {d : Fin n} {P Q : Pt d} (h1 : P.x = Q.x) (h2 : P.y = Q.y) : P = Q := by
  obtain ⟨x, y, h⟩ := P
  obtain ⟨x', y', h'⟩ := Q
  subst h1 h2
  rfl

theorem no_eps (K : Fld n) {d : Fin n} (hd : ∀ s, s * s ≠ d) {x1 y1 x2 y2 e : Fin n} (h1 : x1 * x1 + y1 * y1 = 1 + d * x1 * x1 * y1 * y1) (h2 : x2 * x2 + y2 * y2 = 1 + d * x2 * x2 * y2 * y2)
    (he : e * e = 1) (h : d * x1 * x2 * y1 * y2 = e) : False := by
  have e0 : e ≠ 0 := fun h0 => K.one_ne (by rw [← he, h0]; grind)
  have nx1 : x1 ≠ 0 := fun h0 => e0 (by rw [← h, h0]; grind)
  have nx2 : x2 ≠ 0 := fun h0 => e0 (by rw [← h, h0]; grind)
  have ny1 : y1 ≠ 0 := fun h0 => e0 (by rw [← h, h0]; grind)
  have ny2 : y2 ≠ 0 := fun h0 => e0 (by rw [← h, h0]; grind)
  have k1 : (x1 + e * y1) * (x1 + e * y1) = d * ((x1 * y1 * (x2 + y2)) * (x1 * y1 * (x2 + y2))) := by grind
  have k2 : (x1 - e * y1) * (x1 - e * y1) = d * ((x1 * y1 * (x2 - y2)) * (x1 * y1 * (x2 - y2))) := by grind
  have sq : ∀ r s : Fin n, r * r = d * (s * s) → s = 0 := by
    intro r s hrs
    by_cases hs : s = 0
    · exact hs
    · have hi := K.mul_inv s hs
      exact absurd (show (r * K.inv s) * (r * K.inv s) = d by grind) (hd _)
  have z1 := sq _ _ k1
  have z2 := sq _ _ k2
  have w1 : x2 + y2 = 0 := by
    rcases K.dom z1 with h0 | h0
    · exact absurd h0 (K.ne nx1 ny1)
    · exact h0
  have w2 : x2 - y2 = 0 := by
    rcases K.dom z2 with h0 | h0
    · exact absurd h0 (K.ne nx1 ny1)
    · exact h0
  have w3 : (2 : Fin n) * x2 = 0 := by grind
  rcases K.dom w3 with h0 | h0
  · exact K.two_ne h0
  · exact nx2 h0

theorem plus_ne (K : Fld n) {d : Fin n} (hd : ∀ s, s * s ≠ d) (P Q : Pt d) : 1 + d * P.x * Q.x * P.y * Q.y ≠ 0 := fun h =>
  no_eps K hd (e := -1) P.on Q.on (by grind) (by grind)
theorem minus_ne (K : Fld n) {d : Fin n} (hd : ∀ s, s * s ≠ d) (P Q : Pt d) : 1 - d * P.x * Q.x * P.y * Q.y ≠ 0 := fun h =>
  no_eps K hd (e := 1) P.on Q.on (by grind) (by grind)

theorem add_on (K : Fld n) {d x1 y1 x2 y2 x3 y3 : Fin n} (h1 : x1 * x1 + y1 * y1 = 1 + d * x1 * x1 * y1 * y1) (h2 : x2 * x2 + y2 * y2 = 1 + d * x2 * x2 * y2 * y2)
    (ha : 1 + d * x1 * x2 * y1 * y2 ≠ 0) (hb : 1 - d * x1 * x2 * y1 * y2 ≠ 0)
    (hx : x3 * (1 + d * x1 * x2 * y1 * y2) = x1 * y2 + y1 * x2) (hy : y3 * (1 - d * x1 * x2 * y1 * y2) = y1 * y2 - x1 * x2) :
    x3 * x3 + y3 * y3 = 1 + d * x3 * x3 * y3 * y3 := by
  have key : (x1 * y2 + y1 * x2) * (x1 * y2 + y1 * x2) * ((1 - d * x1 * x2 * y1 * y2) * (1 - d * x1 * x2 * y1 * y2)) + (y1 * y2 - x1 * x2) * (y1 * y2 - x1 * x2) * ((1 + d * x1 * x2 * y1 * y2) * (1 + d * x1 * x2 * y1 * y2))
      = (1 - d * x1 * x2 * y1 * y2) * (1 - d * x1 * x2 * y1 * y2) * ((1 + d * x1 * x2 * y1 * y2) * (1 + d * x1 * x2 * y1 * y2)) + d * ((x1 * y2 + y1 * x2) * (x1 * y2 + y1 * x2)) * ((y1 * y2 - x1 * x2) * (y1 * y2 - x1 * x2)) := by
    clear hx hy ha hb
    grind
  rw [← hx, ← hy] at key
  generalize 1 + d * x1 * x2 * y1 * y2 = a at *
  generalize 1 - d * x1 * x2 * y1 * y2 = b at *
  have hn := K.ne (K.ne ha ha) (K.ne hb hb)
  refine K.cancel hn ?_
  clear hn hx hy h1 h2 ha hb
  grind

/-- The sum of two points. -/
def add (K : Fld n) {d : Fin n} (hd : ∀ s, s * s ≠ d) (P Q : Pt d) : Pt d where
  x := (P.x * Q.y + P.y * Q.x) * K.inv (1 + d * P.x * Q.x * P.y * Q.y)
  y := (P.y * Q.y - P.x * Q.x) * K.inv (1 - d * P.x * Q.x * P.y * Q.y)
  on := add_on K P.on Q.on (plus_ne K hd P Q) (minus_ne K hd P Q)
    (by have := K.mul_inv _ (plus_ne K hd P Q); grind) (by have := K.mul_inv _ (minus_ne K hd P Q); grind)

theorem add_x (K : Fld n) {d : Fin n} (hd : ∀ s, s * s ≠ d) (P Q : Pt d) : (add K hd P Q).x * (1 + d * P.x * Q.x * P.y * Q.y) = P.x * Q.y + P.y * Q.x := by
  have := K.mul_inv _ (plus_ne K hd P Q)
  show (P.x * Q.y + P.y * Q.x) * K.inv (1 + d * P.x * Q.x * P.y * Q.y) * _ = _
  grind
theorem add_y (K : Fld n) {d : Fin n} (hd : ∀ s, s * s ≠ d) (P Q : Pt d) : (add K hd P Q).y * (1 - d * P.x * Q.x * P.y * Q.y) = P.y * Q.y - P.x * Q.x := by
  have := K.mul_inv _ (minus_ne K hd P Q)
  show (P.y * Q.y - P.x * Q.x) * K.inv (1 - d * P.x * Q.x * P.y * Q.y) * _ = _
  grind

theorem add_comm (K : Fld n) {d : Fin n} (hd : ∀ s, s * s ≠ d) (P Q : Pt d) : add K hd P Q = add K hd Q P := by
  have e : d * P.x * Q.x * P.y * Q.y = d * Q.x * P.x * Q.y * P.y := by grind
  have a1 := add_x K hd P Q
  have a2 := add_x K hd Q P
  have b1 := add_y K hd P Q
  have b2 := add_y K hd Q P
  refine Pt.ext (K.cancel (plus_ne K hd P Q) ?_) (K.cancel (minus_ne K hd P Q) ?_)
  · rw [a1, e, a2]; grind
  · rw [b1, e, b2]; grind

/-- The point that adds nothing; the point of the other side. -/
def nought (d : Fin n) : Pt d := ⟨0, 1, by grind⟩
def neg {d : Fin n} (P : Pt d) : Pt d := ⟨-P.x, P.y, by have := P.on; grind⟩

theorem add_nought (K : Fld n) {d : Fin n} (hd : ∀ s, s * s ≠ d) (P : Pt d) : add K hd P (nought d) = P := by
  have a1 := add_x K hd P (nought d)
  have b1 := add_y K hd P (nought d)
  simp only [nought] at a1 b1
  exact Pt.ext (by simp only [nought]; grind) (by simp only [nought]; grind)
theorem add_neg (K : Fld n) {d : Fin n} (hd : ∀ s, s * s ≠ d) (P : Pt d) : add K hd P (neg P) = nought d := by
  have a1 := add_x K hd P (neg P)
  have b1 := add_y K hd P (neg P)
  have na := plus_ne K hd P (neg P)
  have nb := minus_ne K hd P (neg P)
  have h := P.on
  simp only [neg] at a1 b1 na nb
  refine Pt.ext (K.cancel na ?_) (K.cancel nb ?_)
  · simp only [neg, nought]; grind
  · simp only [neg, nought]; grind

end
end Go.Proofs.Ytikmghmapmlebaa.Ed
