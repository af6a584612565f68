/-
  Plain numbers: the ladder's number of a point's fraction is that of the point so many times; two ladders may be gone in either order; nought and one have no multiple but nought. No program in sight.
-/
import Derived.Test.YtikmghmapmlebaaVc
namespace Go.Proofs.Ytikmghmapmlebaa.Ed
section
variable {n : Nat} [NeZero n]

/-- One step of the ladder, for one bit. -/
def lstep (k u : Fin n) (on : Bool) (q : Fin n × Fin n × Fin n × Fin n) : Fin n × Fin n × Fin n × Fin n :=
  match on with
  | false => (dblX q.1 q.2.1, dblZ k q.1 q.2.1, sumX q.1 q.2.1 q.2.2.1 q.2.2.2, sumZ u q.1 q.2.1 q.2.2.1 q.2.2.2)
  | true => (sumX q.2.2.1 q.2.2.2 q.1 q.2.1, sumZ u q.2.2.1 q.2.2.2 q.1 q.2.1, dblX q.2.2.1 q.2.2.2, dblZ k q.2.2.1 q.2.2.2)
/-- So many steps, from the bit `top` down. -/
def lad (k u : Fin n) (bit : Nat → Bool) (top : Nat) : Nat → Fin n × Fin n × Fin n × Fin n
  | 0 => (1, 0, u, 1)
  | j + 1 => lstep k u (bit (top - j)) (lad k u bit top j)
/-- The number that the bits tell. -/
def num (bit : Nat → Bool) (top : Nat) : Nat → Nat
  | 0 => 0
  | j + 1 => 2 * num bit top j + if bit (top - j) then 1 else 0
/-- What the ladder tells. -/
def tim (K : Fld n) (k u : Fin n) (bit : Nat → Bool) (top j : Nat) : Fin n := (lad k u bit top j).1 * K.inv (lad k u bit top j).2.1

theorem lad_rep (K : Fld n) {k s d u : Fin n} (hd : ∀ s, s * s ≠ d) (k0 : k ≠ 0) (k1 : k + 1 ≠ 0) (hs : Side k s d) {P : Pt d} (hu : u * (1 - P.y) = s * (1 + P.y)) (u0 : u ≠ 0) (bit : Nat → Bool) (top : Nat) :
    ∀ j, Rep s (mul K hd (num bit top j) P) (lad k u bit top j).1 (lad k u bit top j).2.1 ∧ Rep s (mul K hd (num bit top j + 1) P) (lad k u bit top j).2.2.1 (lad k u bit top j).2.2.2 := by
  have hs2 : s = 1 ∨ s = -1 := by rcases hs with ⟨h, _⟩ | ⟨h, _⟩ <;> simp [h]
  intro j
  induction j with
  | zero =>
    refine ⟨rep_of K hs.sq _ ?_ (fun h => K.one_ne h.1), rep_of K hs.sq _ ?_ (fun h => K.one_ne h.2)⟩
    · show (1 : Fin n) * (1 - (nought d).y) = s * 0 * (1 + (nought d).y)
      simp only [nought]; grind
    · show u * (1 - (add K hd (nought d) P).y) = s * 1 * (1 + (add K hd (nought d) P).y)
      rw [nought_add, hu]; clear hu; grind
  | succ j ih =>
    obtain ⟨h1, h2⟩ := ih
    cases hb : bit (top - j)
    · have e : num bit top (j + 1) = num bit top j + num bit top j := by simp only [num, hb]; simp; omega
      have l : lad k u bit top (j + 1) = lstep k u false (lad k u bit top j) := by simp only [lad, hb]
      rw [e, l]
      refine ⟨?_, ?_⟩
      · rw [mul_add]; exact rep_double K hd k0 k1 hs h1
      · rw [Nat.add_assoc, mul_add]; exact rep_dadd K hd hs2 h1 h2 hu u0 (.inl rfl)
    · have e : num bit top (j + 1) = (num bit top j + 1) + num bit top j := by simp only [num, hb]; simp; omega
      have l : lad k u bit top (j + 1) = lstep k u true (lad k u bit top j) := by simp only [lad, hb]
      rw [e, l]
      refine ⟨?_, ?_⟩
      · rw [mul_add]; exact rep_dadd K hd hs2 h2 h1 hu u0 (.inr rfl)
      · rw [Nat.add_assoc, mul_add]; exact rep_double K hd k0 k1 hs h2

/-- A point's number; nought where it has none. -/
def val (K : Fld n) (s : Fin n) {d : Fin n} (P : Pt d) : Fin n := if P.y = 1 then 0 else s * (1 + P.y) * K.inv (1 - P.y)

theorem one_sub_ne {y : Fin n} (h : y ≠ 1) : 1 - y ≠ 0 := fun h0 => h (by grind)

theorem rep_val (K : Fld n) (i0 : K.inv 0 = 0) {s d : Fin n} {P : Pt d} {X Z : Fin n} (h : Rep s P X Z) : X * K.inv Z = val K s P := by
  obtain ⟨l, hl, rfl, rfl⟩ := h
  unfold val
  split
  · next h => rw [h, show l * (1 - 1 : Fin n) = 0 by clear h; grind, i0]; clear h; grind
  · next h =>
    have nz := one_sub_ne h
    have e1 := K.mul_inv _ nz
    have e2 := K.mul_inv _ (K.ne hl nz)
    generalize 1 - P.y = z at *
    refine K.cancel (K.ne hl nz) ?_
    clear nz
    generalize K.inv z = i at *
    generalize K.inv (l * z) = m at *
    generalize 1 + P.y = y at *
    grind

theorem val_u (K : Fld n) {s d : Fin n} {P : Pt d} (h : val K s P ≠ 0) : val K s P * (1 - P.y) = s * (1 + P.y) := by
  unfold val at h ⊢
  split at h
  · exact absurd rfl h
  · next hy =>
    rw [if_neg hy]
    have e1 := K.mul_inv _ (one_sub_ne hy)
    generalize 1 - P.y = z at *
    clear h
    grind
theorem val_nought (K : Fld n) {s d : Fin n} (hs : s * s = 1) {P : Pt d} (h : val K s P = 0) : P.y = 1 ∨ P.y = -1 := by
  unfold val at h
  split at h
  · next hy => exact .inl hy
  · next hy =>
    right
    have e1 := K.mul_inv _ (one_sub_ne hy)
    have s0 : s ≠ 0 := fun h0 => K.one_ne (by rw [← hs, h0]; clear h e1; grind)
    have i0 : K.inv (1 - P.y) ≠ 0 := fun h0 => K.one_ne (by rw [← e1, h0]; clear h e1; grind)
    rcases K.dom h with h1 | h1
    · have h2 := (K.dom h1).resolve_left s0
      clear h h1 e1 i0
      grind
    · exact absurd h1 i0

/-- Twice a point of those is the point that adds nothing. -/
theorem two_nought (K : Fld n) {d : Fin n} (hd : ∀ s, s * s ≠ d) {P : Pt d} (h : P.y = 1 ∨ P.y = -1) : add K hd P P = nought d := by
  have hyy : P.y * P.y = 1 := by rcases h with h | h <;> rw [h] <;> grind
  have hx : P.x = 0 := by
    have on := P.on
    by_cases x0 : P.x = 0
    · exact x0
    · have hi := K.mul_inv _ x0
      exact absurd (show (1 : Fin n) * 1 = d by
        have e : P.x * P.x = d * (P.x * P.x) := by clear hi h; grind
        have e2 : P.x * P.x * (K.inv P.x * K.inv P.x) = 1 := by clear on h e; grind
        have e3 : P.x * P.x * (K.inv P.x * K.inv P.x) = d * (P.x * P.x * (K.inv P.x * K.inv P.x)) := by
          conv => lhs; rw [e]
          clear e e2 on hi h; grind
        rw [e2] at e3
        clear e e2 on hi h
        grind) (hd _)
  have a := add_x K hd P P
  have b := add_y K hd P P
  rw [hx] at a b
  refine Pt.ext ?_ ?_
  · simp only [nought]; clear b h hx; grind
  · simp only [nought]; clear a h hx; grind

/-- The ladder of nought tells nought. -/
theorem lad_nought (k : Fin n) (bit : Nat → Bool) (top : Nat) : ∀ j, (lad k 0 bit top j).1 * (lad k 0 bit top j).2.1 = 0 ∧ (lad k 0 bit top j).2.2.1 * (lad k 0 bit top j).2.2.2 = 0 ∧ (0 < j → (lad k 0 bit top j).2.1 = 0) := by
  have dz : ∀ X Z : Fin n, X * Z = 0 → dblZ k X Z = 0 := fun X Z h => by
    have e : (X + Z) * (X + Z) - (X - Z) * (X - Z) = 0 := by grind
    unfold dblZ
    rw [e]
    clear h e
    grind
  have sz : ∀ a b c d : Fin n, sumZ 0 a b c d = 0 := fun a b c d => by
    unfold sumZ
    generalize ((c + d) * (a - b) - (c - d) * (a + b)) * ((c + d) * (a - b) - (c - d) * (a + b)) = q
    grind
  have mz : ∀ a : Fin n, a * 0 = 0 := fun a => by grind
  intro j
  induction j with
  | zero => exact ⟨mz 1, show (0 : Fin n) * 1 = 0 by grind, fun h => absurd h (by omega)⟩
  | succ j ih =>
    obtain ⟨h1, h2, _⟩ := ih
    cases hb : bit (top - j)
    · have l : lad k 0 bit top (j + 1) = lstep k 0 false (lad k 0 bit top j) := by simp only [lad, hb]
      rw [l]
      simp only [lstep]
      rw [dz _ _ h1, sz]
      exact ⟨mz _, mz _, fun _ => rfl⟩
    · have l : lad k 0 bit top (j + 1) = lstep k 0 true (lad k 0 bit top j) := by simp only [lad, hb]
      rw [l]
      simp only [lstep]
      rw [dz _ _ h2, sz]
      exact ⟨mz _, mz _, fun _ => rfl⟩
theorem tim_nought (K : Fld n) (i0 : K.inv 0 = 0) (k : Fin n) (bit : Nat → Bool) (top j : Nat) (hj : 0 < j) : tim K k 0 bit top j = 0 := by
  unfold tim
  rw [(lad_nought k bit top j).2.2 hj, i0]
  generalize Prod.fst _ = a
  grind

theorem tim_val (K : Fld n) (i0 : K.inv 0 = 0) {k s d u : Fin n} (hd : ∀ s, s * s ≠ d) (k0 : k ≠ 0) (k1 : k + 1 ≠ 0) (hs : Side k s d) {P : Pt d} (hu : u * (1 - P.y) = s * (1 + P.y)) (u0 : u ≠ 0) (bit : Nat → Bool) (top j : Nat) :
    tim K k u bit top j = val K s (mul K hd (num bit top j) P) := rep_val K i0 (lad_rep K hd k0 k1 hs hu u0 bit top j).1

theorem tim_tim (K : Fld n) (i0 : K.inv 0 = 0) {k s d u : Fin n} (hd : ∀ s, s * s ≠ d) (k0 : k ≠ 0) (k1 : k + 1 ≠ 0) (hs : Side k s d) {P : Pt d} (hu : u * (1 - P.y) = s * (1 + P.y)) (u0 : u ≠ 0) (a b : Nat → Bool) (top j : Nat) (hj : 0 < j) {m : Nat} (ha : num a top j = m * 2) :
    tim K k (tim K k u b top j) a top j = val K s (mul K hd (num a top j * num b top j) P) := by
  have e := tim_val K i0 hd k0 k1 hs hu u0 b top j
  by_cases hv : val K s (mul K hd (num b top j) P) = 0
  · rw [e, hv, tim_nought K i0 k a top j hj]
    have h2 := two_nought K hd (val_nought K hs.sq hv)
    rw [← mul_mul, ha, ← mul_mul K hd _ m 2]
    have h3 : mul K hd 2 (mul K hd (num b top j) P) = nought d := by
      show add K hd (add K hd (nought d) _) _ = _
      rw [nought_add, h2]
    rw [h3, mul_nought]
    simp [val, nought]
  · rw [e, tim_val K i0 hd k0 k1 hs (val_u K hv) hv a top j, mul_mul]

/-- What is needed of the field: the curve's number d is no square, and each number or it as often as d is one. -/
structure Crv (n : Nat) [NeZero n] (k d : Fin n) extends Fld n where
  inv0 : inv 0 = 0
  k0 : k ≠ 0
  k1 : k + 1 ≠ 0
  dk : d * (k + 1) = k
  nsq : ∀ s : Fin n, s * s ≠ d
  sq : ∀ g : Fin n, (∃ r, r * r = g) ∨ (∃ r, r * r = g * d)

theorem Crv.d0 {k d : Fin n} (C : Crv n k d) : d ≠ 0 := fun h => C.nsq 0 (by rw [h]; grind)

theorem one_minus (K : Fld n) {d y : Fin n} (hd : ∀ s, s * s ≠ d) : 1 - d * (y * y) ≠ 0 := fun h => by
  have y0 : y ≠ 0 := fun h0 => K.one_ne (by rw [h0] at h; grind)
  have hi := K.mul_inv y y0
  refine hd (K.inv y) ?_
  have e1 : d * (y * y) = 1 := by clear hi; grind
  have e2 : K.inv y * K.inv y * (d * (y * y)) = d := by
    have : K.inv y * K.inv y * (d * (y * y)) = d * (y * K.inv y) * (y * K.inv y) := by clear hi h e1; grind
    rw [this, hi]; clear hi h e1 this; grind
  rw [e1] at e2
  rw [← e2]; clear e2 e1 hi h; grind

theorem Crv.point {k d : Fin n} (C : Crv n k d) (u : Fin n) : ∃ (s e : Fin n) (_ : Side k s e) (_ : ∀ t, t * t ≠ e) (P : Pt e), u * (1 - P.y) = s * (1 + P.y) := by
  have hdi := C.mul_inv d C.d0
  have hdk := C.dk
  have side2 : Side k (-1) (C.inv d) := .inr ⟨rfl, by
    have e : C.inv d * k = C.inv d * (d * (k + 1)) := by rw [hdk]
    rw [e]
    have e2 : C.inv d * (d * (k + 1)) = d * C.inv d * (k + 1) := by clear hdi hdk e; grind
    rw [e2, hdi]; clear hdi hdk e e2; grind⟩
  have nsq2 : ∀ t : Fin n, t * t ≠ C.inv d := fun t ht => C.nsq (d * t) (by
    have e : d * t * (d * t) = d * (d * (t * t)) := by clear hdi hdk ht; grind
    rw [e, ht, hdi]; clear hdi hdk ht e; grind)
  by_cases u1 : u + 1 = 0
  · exact ⟨-1, C.inv d, side2, nsq2, ⟨1, 0, by clear u1 hdi hdk; grind⟩, by simp only; clear hdi hdk; grind⟩
  by_cases u2 : u - 1 = 0
  · exact ⟨1, d, .inl ⟨rfl, hdk⟩, C.nsq, ⟨1, 0, by clear u1 u2 hdi hdk; grind⟩, by simp only; clear hdi hdk; grind⟩
  have i1 := C.mul_inv _ u1
  have i2 := C.mul_inv _ u2
  generalize hy : (u - 1) * C.inv (u + 1) = y at *
  generalize hz : (u + 1) * C.inv (u - 1) = z at *
  have y1 : (u + 1) * y = u - 1 := by
    rw [← hy]
    have : (u + 1) * ((u - 1) * C.inv (u + 1)) = (u + 1) * C.inv (u + 1) * (u - 1) := by clear hy hz i1 i2 hdi hdk; grind
    rw [this, i1]; clear this hy hz i1 i2 hdi hdk; grind
  have z1 : (u - 1) * z = u + 1 := by
    rw [← hz]
    have : (u - 1) * ((u + 1) * C.inv (u - 1)) = (u - 1) * C.inv (u - 1) * (u + 1) := by clear hy hz i1 i2 hdi hdk y1; grind
    rw [this, i2]; clear this hy hz i1 i2 hdi hdk y1; grind
  have yz : y * z = 1 := by
    refine C.cancel (C.ne u1 u2) ?_
    have : y * z * ((u + 1) * (u - 1)) = (u + 1) * y * ((u - 1) * z) := by clear hy hz i1 i2 hdi hdk y1 z1; grind
    rw [this, y1, z1]; clear this hy hz i1 i2 hdi hdk y1 z1; grind
  clear hy hz i1 i2
  rcases C.sq ((1 - y * y) * (1 - d * (y * y))) with ⟨r, hr⟩ | ⟨r, hr⟩
  · have nm : 1 - d * (y * y) ≠ 0 := one_minus C.toFld C.nsq
    have im := C.mul_inv _ nm
    refine ⟨1, d, .inl ⟨rfl, hdk⟩, C.nsq, ⟨r * C.inv (1 - d * (y * y)), y, ?_⟩, by simp only; clear hdi hdk hr im z1 yz; grind⟩
    generalize hm : 1 - d * (y * y) = m at *
    generalize C.inv m = i at *
    have e1 : r * i * (r * i) * m = 1 - y * y := by
      have : r * i * (r * i) * m = r * r * i * (m * i) := by clear hdi hdk hr im z1 yz y1 hm; grind
      rw [this, im, hr]
      have : (1 - y * y) * m * i * 1 = (1 - y * y) * (m * i) := by clear hdi hdk hr im z1 yz y1 hm this; grind
      rw [this, im]; clear hdi hdk hr im z1 yz y1 hm this; grind
    rw [← hm] at e1
    clear hm im hr hdi hdk z1 yz y1
    generalize r * i = x at *
    grind
  · have nm : 1 - C.inv d * (z * z) ≠ 0 := one_minus C.toFld nsq2
    have im := C.mul_inv _ nm
    refine ⟨-1, C.inv d, side2, nsq2, ⟨r * C.inv d * (z * z) * C.inv (1 - C.inv d * (z * z)), z, ?_⟩, by simp only; clear hdi hdk hr im y1 yz; grind⟩
    generalize hm : 1 - C.inv d * (z * z) = m at *
    generalize C.inv m = i at *
    clear nsq2 side2 nm
    generalize C.inv d = e at *
    have yz2 : y * y * (z * z) = 1 := by
      have : y * y * (z * z) = y * z * (y * z) := by clear hdi hdk hr im z1 yz y1 hm; grind
      rw [this, yz]; clear hdi hdk hr im z1 yz y1 hm this; grind
    have e1 : r * e * (z * z) * i * (r * e * (z * z) * i) * m = 1 - z * z := by
      have a1 : r * e * (z * z) * i * (r * e * (z * z) * i) * m = r * r * (e * e * (z * z * (z * z))) * i * (m * i) := by clear hdi hdk hr im z1 yz yz2 y1 hm; grind
      have a2 : r * r * (e * e * (z * z * (z * z))) = (1 - z * z) * m := by
        rw [hr, ← hm]
        have b1 : (1 - y * y) * (1 - d * (y * y)) * d * (e * e * (z * z * (z * z))) = (z * z - y * y * (z * z)) * (z * z * (d * e) * e - d * e * (d * e) * (y * y * (z * z))) := by clear hdi hdk hr im z1 yz yz2 y1 hm a1; grind
        rw [b1, yz2, hdi]; clear hdi hdk hr im z1 yz yz2 y1 hm a1 b1; grind
      rw [a1, im, a2]
      have a3 : (1 - z * z) * m * i * 1 = (1 - z * z) * (m * i) := by clear hdi hdk hr im z1 yz yz2 y1 hm a1 a2; grind
      rw [a3, im]; clear hdi hdk hr im z1 yz yz2 y1 hm a1 a2 a3; grind
    rw [← hm] at e1
    clear hm im hr hdi hdk z1 yz y1 yz2
    generalize r * e * (z * z) * i = x at *
    grind

/-- The two ladders, in either order. -/
theorem Crv.tim_comm {k d : Fin n} (C : Crv n k d) (u : Fin n) (a b : Nat → Bool) (top j : Nat) (hj : 0 < j) {m m' : Nat} (ha : num a top j = m * 2) (hb : num b top j = m' * 2) :
    tim C.toFld k (tim C.toFld k u b top j) a top j = tim C.toFld k (tim C.toFld k u a top j) b top j := by
  by_cases u0 : u = 0
  · subst u0
    rw [tim_nought C.toFld C.inv0 k a top j hj, tim_nought C.toFld C.inv0 k b top j hj, tim_nought C.toFld C.inv0 k a top j hj]
  · obtain ⟨s, e, hs, hd, P, hu⟩ := C.point u
    rw [tim_tim C.toFld C.inv0 hd C.k0 C.k1 hs hu u0 a b top j hj ha, tim_tim C.toFld C.inv0 hd C.k0 C.k1 hs hu u0 b a top j hj hb, Nat.mul_comm]

/-- The ladder of one, by four times a number. -/
theorem Crv.tim_one {k d : Fin n} (C : Crv n k d) (a : Nat → Bool) (top j : Nat) {m : Nat} (ha : num a top j = m * 4) : tim C.toFld k 1 a top j = 0 := by
  have hdk := C.dk
  rw [tim_val C.toFld C.inv0 C.nsq C.k0 C.k1 (P := ⟨1, 0, by clear hdk ha; grind⟩) (.inl ⟨rfl, hdk⟩) (by simp only; clear hdk ha; grind) C.one_ne a top j, ha, ← mul_mul]
  generalize hP : (⟨1, 0, _⟩ : Pt d) = P
  have hx : P.x = 1 := by rw [← hP]
  have hy : P.y = 0 := by rw [← hP]
  have e2 : mul C.toFld C.nsq 2 P = add C.toFld C.nsq P P := by show add _ _ (add _ _ (nought d) P) P = _; rw [nought_add]
  have b := add_y C.toFld C.nsq P P
  rw [hx, hy] at b
  have y2 : (add C.toFld C.nsq P P).y = -1 := by clear hP hx hy e2 ha hdk; grind
  have e4 : mul C.toFld C.nsq 4 P = nought d := by
    rw [show 4 = 2 + 2 from rfl, mul_add, e2]
    exact two_nought C.toFld C.nsq (.inr y2)
  rw [e4, mul_nought]
  simp [val, nought]
end
end Go.Proofs.Ytikmghmapmlebaa.Ed
