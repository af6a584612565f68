/-
  Plain numbers: the steps over fractions tell points: one is doubled, and the other one, that differs by a known one, is added. No program in sight.
-/
import Derived.Test.YtikmghmapmlebaaVb
namespace Go.Proofs.Ytikmghmapmlebaa.Ed
section
variable {n : Nat} [NeZero n]

/-- The fraction X / Z tells a point: s (1 + y) / (1 - y). -/
def Rep (s : Fin n) {d : Fin n} (P : Pt d) (X Z : Fin n) : Prop := ∃ l, l ≠ 0 ∧ X = s * l * (1 + P.y) ∧ Z = l * (1 - P.y)

theorem rep_of (K : Fld n) {s d : Fin n} (hs : s * s = 1) (P : Pt d) {X Z : Fin n} (h : X * (1 - P.y) = s * Z * (1 + P.y)) (hn : ¬ (X = 0 ∧ Z = 0)) : Rep s P X Z := by
  have h2 := K.mul_inv 2 K.two_ne
  generalize K.inv 2 = i at *
  have half : ∀ a : Fin n, a = i * (2 * a) := fun a => by
    have e : i * (2 * a) = 2 * i * a := by clear h2 h hn; grind
    rw [e, h2]; clear h2 h hn e; grind
  refine ⟨(s * X + Z) * i, fun h0 => hn ?_, ?_, ?_⟩
  · have hz : s * X + Z = 0 := by
      have e : s * X + Z = 2 * ((s * X + Z) * i) := by
        have := half (s * X + Z)
        clear h2 h hn half h0 hs
        grind
      rw [e, h0]; clear hn h half h2; grind
    have hx : 2 * X = 0 := by clear hn half h2 h0; grind
    have hx : X = 0 := by rw [half X, hx]; clear hn half h2 h0; grind
    exact ⟨hx, by rw [hx] at hz; clear hn half h2 h0; grind⟩
  · have e : s * ((s * X + Z) * i) * (1 + P.y) = i * (2 * X) := by clear hn half h2; grind
    rw [e, ← half]
  · have e : (s * X + Z) * i * (1 - P.y) = i * (2 * Z) := by clear hn half h2; grind
    rw [e, ← half]

/-- One step: what is doubled, and the sum. -/
def dblX (X Z : Fin n) : Fin n := (X + Z) * (X + Z) * ((X - Z) * (X - Z))
def dblZ (c X Z : Fin n) : Fin n := ((X + Z) * (X + Z) - (X - Z) * (X - Z)) * ((X + Z) * (X + Z) + c * ((X + Z) * (X + Z) - (X - Z) * (X - Z)))
def sumX (X2 Z2 X3 Z3 : Fin n) : Fin n := ((X3 + Z3) * (X2 - Z2) + (X3 - Z3) * (X2 + Z2)) * ((X3 + Z3) * (X2 - Z2) + (X3 - Z3) * (X2 + Z2))
def sumZ (u X2 Z2 X3 Z3 : Fin n) : Fin n := u * (((X3 + Z3) * (X2 - Z2) - (X3 - Z3) * (X2 + Z2)) * ((X3 + Z3) * (X2 - Z2) - (X3 - Z3) * (X2 + Z2)))

theorem four_ne (K : Fld n) : (4 : Fin n) ≠ 0 := by
  intro h
  have e : (2 : Fin n) * 2 = 4 := by clear h; grind
  exact K.ne K.two_ne K.two_ne (e.trans h)
theorem sixteen_ne (K : Fld n) {l : Fin n} (hl : l ≠ 0) : 16 * (l * l * (l * l)) ≠ 0 := by
  have := K.ne (K.ne (four_ne K) (four_ne K)) (K.ne (K.ne hl hl) (K.ne hl hl))
  intro h
  apply this
  grind

/-- The curve's number and the side. -/
def Side (c s d : Fin n) : Prop := (s = 1 ∧ d * (c + 1) = c) ∨ (s = -1 ∧ d * c = c + 1)
theorem Side.sq {c s d : Fin n} (h : Side c s d) : s * s = 1 := by
  rcases h with ⟨h, _⟩ | ⟨h, _⟩ <;> subst h <;> grind

theorem rep_double (K : Fld n) {c s d : Fin n} (hd : ∀ s, s * s ≠ d) (c0 : c ≠ 0) (c1 : c + 1 ≠ 0) (hs : Side c s d) {P : Pt d} {X Z : Fin n} (h : Rep s P X Z) :
    Rep s (add K hd P P) (dblX X Z) (dblZ c X Z) := by
  obtain ⟨l, hl, rfl, rfl⟩ := h
  have ay := add_y K hd P P
  have nd := minus_ne K hd P P
  have on := P.on
  have n16 := sixteen_ne K hl
  generalize P.x = x at *
  generalize P.y = y at *
  refine rep_of K hs.sq _ ?_ ?_
  · generalize (add K hd P P).y = w at *
    have hD : 1 - d * x * x * y * y = 2 - x * x - y * y := by grind
    rw [hD] at ay nd
    clear hD
    refine K.cancel nd ?_
    rcases hs with ⟨rfl, hc⟩ | ⟨rfl, hc⟩
    · have key : y * y = (1 + c * (1 - y * y)) * (1 - x * x) := by clear ay nd n16 hl; grind
      have e1 : dblX (1 * l * (1 + y)) (l * (1 - y)) = 16 * (l * l * (l * l)) * (y * y) := by unfold dblX; clear ay key on hc nd n16; grind
      have e2 : dblZ c (1 * l * (1 + y)) (l * (1 - y)) = 16 * (l * l * (l * l)) * ((1 - y * y) * (1 + c * (1 - y * y))) := by unfold dblZ; clear ay key on hc nd e1 n16; grind
      rw [e1, e2]
      generalize 16 * (l * l * (l * l)) = m at *
      generalize 1 + c * (1 - y * y) = q at *
      clear e1 e2 on hc nd n16
      grind
    · have key : y * y = (y * y + c * (y * y - 1)) * (1 - x * x) := by clear ay nd n16 hl; grind
      have e1 : dblX (-1 * l * (1 + y)) (l * (1 - y)) = 16 * (l * l * (l * l)) * (y * y) := by unfold dblX; clear ay key on hc nd n16; grind
      have e2 : dblZ c (-1 * l * (1 + y)) (l * (1 - y)) = 16 * (l * l * (l * l)) * ((y * y - 1) * (y * y + c * (y * y - 1))) := by unfold dblZ; clear ay key on hc nd e1 n16; grind
      rw [e1, e2]
      generalize 16 * (l * l * (l * l)) = m at *
      generalize y * y + c * (y * y - 1) = q at *
      clear e1 e2 on hc nd n16
      grind
  · clear ay nd
    rintro ⟨hx, hz⟩
    rcases hs with ⟨rfl, hc⟩ | ⟨rfl, hc⟩
    · have e1 : dblX (1 * l * (1 + y)) (l * (1 - y)) = 16 * (l * l * (l * l)) * (y * y) := by unfold dblX; clear hx hz on hc n16; grind
      rw [e1] at hx
      have hy : y * y = 0 := (K.dom hx).resolve_left n16
      have hy : y = 0 := (K.dom hy).elim id id
      subst hy
      have e2 : dblZ c (1 * l * (1 + 0)) (l * (1 - 0)) = 16 * (l * l * (l * l)) * (c + 1) := by unfold dblZ; clear hx hz on hc n16 e1; grind
      rw [e2] at hz
      exact c1 ((K.dom hz).resolve_left n16)
    · have e1 : dblX (-1 * l * (1 + y)) (l * (1 - y)) = 16 * (l * l * (l * l)) * (y * y) := by unfold dblX; clear hx hz on hc n16; grind
      rw [e1] at hx
      have hy : y * y = 0 := (K.dom hx).resolve_left n16
      have hy : y = 0 := (K.dom hy).elim id id
      subst hy
      have e2 : dblZ c (-1 * l * (1 + 0)) (l * (1 - 0)) = 16 * (l * l * (l * l)) * c := by unfold dblZ; clear hx hz on hc n16 e1; grind
      rw [e2] at hz
      exact c0 ((K.dom hz).resolve_left n16)

theorem dadd_key (d x1 y1 x2 y2 : Fin n) (h1 : x1 * x1 + y1 * y1 = 1 + d * x1 * x1 * y1 * y1) (h2 : x2 * x2 + y2 * y2 = 1 + d * x2 * x2 * y2 * y2) :
    (y1 + y2) * (y1 + y2) * ((1 - d * x1 * x2 * y1 * y2 - (y1 * y2 - x1 * x2)) * (1 + d * x1 * x2 * y1 * y2 - (y1 * y2 + x1 * x2)))
    = (y1 - y2) * (y1 - y2) * ((1 - d * x1 * x2 * y1 * y2 + (y1 * y2 - x1 * x2)) * (1 + d * x1 * x2 * y1 * y2 + (y1 * y2 + x1 * x2))) := by
  grind

theorem rep_dadd (K : Fld n) {s d u : Fin n} (hd : ∀ s, s * s ≠ d) (hs : s = 1 ∨ s = -1) {P Q D : Pt d} {X2 Z2 X3 Z3 : Fin n} (hP : Rep s P X2 Z2) (hQ : Rep s Q X3 Z3)
    (hu : u * (1 - D.y) = s * (1 + D.y)) (u0 : u ≠ 0) (hD : Q = add K hd P D ∨ P = add K hd Q D) :
    Rep s (add K hd P Q) (sumX X2 Z2 X3 Z3) (sumZ u X2 Z2 X3 Z3) := by
  have hy0 : D.y * (1 + d * P.x * Q.x * P.y * Q.y) = P.y * Q.y + P.x * Q.x := by
    rcases hD with e | e
    · have e2 : add K hd Q (neg P) = D := by rw [e, add_comm K hd P D, add_assoc, add_neg, add_nought]
      have h := add_y K hd Q (neg P)
      rw [e2] at h
      simp only [neg] at h
      clear e e2 hu
      grind
    · have e2 : add K hd P (neg Q) = D := by rw [e, add_comm K hd Q D, add_assoc, add_neg, add_nought]
      have h := add_y K hd P (neg Q)
      rw [e2] at h
      simp only [neg] at h
      clear e e2 hu
      grind
  have np := plus_ne K hd P Q
  have nm := minus_ne K hd P Q
  have hy3 := add_y K hd P Q
  have key := dadd_key d P.x P.y Q.x Q.y P.on Q.on
  have on1 := P.on
  have on2 := Q.on
  obtain ⟨l, hl, rfl, rfl⟩ := hP
  obtain ⟨m, hm, rfl, rfl⟩ := hQ
  have hss : s * s = 1 := by rcases hs with rfl | rfl <;> grind
  have nlm := K.ne (K.ne (four_ne K) (four_ne K)) (K.ne (K.ne hl hl) (K.ne hm hm))
  have eX : sumX (s * l * (1 + P.y)) (l * (1 - P.y)) (s * m * (1 + Q.y)) (m * (1 - Q.y)) = (4 * 4) * ((l * l) * (m * m)) * ((P.y + Q.y) * (P.y + Q.y)) := by
    unfold sumX
    clear key hy3 hy0 np nm on1 on2 nlm hu hD
    rcases hs with rfl | rfl <;> grind
  have eZ : sumZ u (s * l * (1 + P.y)) (l * (1 - P.y)) (s * m * (1 + Q.y)) (m * (1 - Q.y)) = u * ((4 * 4) * ((l * l) * (m * m)) * ((P.y - Q.y) * (P.y - Q.y))) := by
    unfold sumZ
    clear key hy3 hy0 np nm on1 on2 nlm hu eX hD
    rcases hs with rfl | rfl <;> grind
  rw [eX, eZ]
  clear eX eZ hs
  generalize (4 : Fin n) * 4 * (l * l * (m * m)) = L at *
  clear hD
  refine rep_of K hss _ ?_ ?_
  · generalize (add K hd P Q).y = y3 at *
    generalize P.x = x1 at *
    generalize P.y = y1 at *
    generalize Q.x = x2 at *
    generalize Q.y = y2 at *
    generalize D.y = y0 at *
    have n0 : 1 - y0 ≠ 0 := by
      intro h0
      have : (1 : Fin n) + y0 = 2 := by grind
      have h2 := K.two_ne
      rw [h0, this] at hu
      have h3 : s * (s * 2) = 0 := by rw [← hu]; clear hu key hy3 hy0 on1 on2 hss h0; grind
      have h4 : s * (s * 2) = s * s * 2 := by clear hu key hy3 hy0 on1 on2 hss h0 h3; grind
      rw [h4, hss] at h3
      exact h2 (by rw [← h3]; clear hu key hy3 hy0 on1 on2 hss h0 h3; grind)
    refine K.cancel (K.ne (K.ne np nm) n0) ?_
    clear on1 on2 np nm nlm hl hm u0 n0
    generalize 1 + d * x1 * x2 * y1 * y2 = A at *
    generalize 1 - d * x1 * x2 * y1 * y2 = B at *
    rw [← hy0, ← hy3] at key
    clear hy0 hy3
    generalize (y1 + y2) * (y1 + y2) = M at *
    generalize (y1 - y2) * (y1 - y2) = N at *
    grind
  · rintro ⟨hx, hz⟩
    have a1 : P.y + Q.y = 0 := ((K.dom ((K.dom hx).resolve_left nlm))).elim id id
    have a2 : P.y - Q.y = 0 := ((K.dom ((K.dom ((K.dom hz).resolve_left u0)).resolve_left nlm))).elim id id
    have a3 : (2 : Fin n) * P.y = 0 := by clear key hy3 hy0 hu; grind
    have a4 : P.y = 0 := (K.dom a3).resolve_left K.two_ne
    have a5 : Q.y = 0 := by clear key hy3 hy0 hu; grind
    rw [a4, a5] at hy0
    rw [a4] at on1
    rw [a5] at on2
    have b1 : P.x * P.x = 1 := by clear key hy3 hy0 hu; grind
    have b2 : Q.x * Q.x = 1 := by clear key hy3 hy0 hu; grind
    have b3 : D.y = P.x * Q.x := by clear key hy3 hu; grind
    have b4 : (D.y - 1) * (D.y + 1) = 0 := by clear key hy3 hu; grind
    rcases K.dom b4 with h0 | h0
    · have : D.y = 1 := by grind
      rw [this] at hu
      have h2 : s * (s * 2) = 0 := by clear key hy3 hy0 b3 b4 hss; grind
      have h4 : s * (s * 2) = s * s * 2 := by clear hu key hy3 hy0 on1 on2 hss h0 h2; grind
      rw [h4, hss] at h2
      exact K.two_ne (by rw [← h2]; clear hu key hy3 hy0 on1 on2 hss h0 h2; grind)
    · have : u * 2 = 0 := by grind
      rcases K.dom this with h | h
      · exact u0 h
      · exact K.two_ne h
end
end Go.Proofs.Ytikmghmapmlebaa.Ed
