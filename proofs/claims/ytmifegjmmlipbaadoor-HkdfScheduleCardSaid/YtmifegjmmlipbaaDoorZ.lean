/-
  SHA-256 as plain numbers: words of 32 bits, lists of bytes.
-/
namespace Sha
abbrev W := BitVec 32

def rotr (x : W) (n : Nat) : W := (x >>> n) ||| (x <<< (32 - n))
def sg0 (x : W) : W := rotr x 7 ^^^ rotr x 18 ^^^ (x >>> 3)
def sg1 (x : W) : W := rotr x 17 ^^^ rotr x 19 ^^^ (x >>> 10)
def S0 (x : W) : W := rotr x 2 ^^^ rotr x 13 ^^^ rotr x 22
def S1 (x : W) : W := rotr x 6 ^^^ rotr x 11 ^^^ rotr x 25
def ch (e f g : W) : W := (e &&& f) ^^^ (~~~e &&& g)
def maj (a b c : W) : W := (a &&& b) ^^^ (a &&& c) ^^^ (b &&& c)

theorem ch_other (e f g : W) : g ^^^ (e &&& (f ^^^ g)) = ch e f g := by
  unfold ch
  apply BitVec.eq_of_getLsbD_eq
  intro i hi
  simp only [BitVec.getLsbD_xor, BitVec.getLsbD_and, BitVec.getLsbD_not, hi, decide_true, Bool.true_and]
  cases e.getLsbD i <;> cases f.getLsbD i <;> cases g.getLsbD i <;> rfl
theorem maj_other (a b c : W) : (a &&& b) ||| (c &&& (a ||| b)) = maj a b c := by
  unfold maj
  apply BitVec.eq_of_getLsbD_eq
  intro i hi
  simp only [BitVec.getLsbD_xor, BitVec.getLsbD_and, BitVec.getLsbD_or]
  cases a.getLsbD i <;> cases b.getLsbD i <;> cases c.getLsbD i <;> rfl

def Kl : List Nat := [0x428a2f98, 0x71374491, 0xb5c0fbcf, 0xe9b5dba5, 0x3956c25b, 0x59f111f1, 0x923f82a4, 0xab1c5ed5,
    0xd807aa98, 0x12835b01, 0x243185be, 0x550c7dc3, 0x72be5d74, 0x80deb1fe, 0x9bdc06a7, 0xc19bf174,
    0xe49b69c1, 0xefbe4786, 0x0fc19dc6, 0x240ca1cc, 0x2de92c6f, 0x4a7484aa, 0x5cb0a9dc, 0x76f988da,
    0x983e5152, 0xa831c66d, 0xb00327c8, 0xbf597fc7, 0xc6e00bf3, 0xd5a79147, 0x06ca6351, 0x14292967,
    0x27b70a85, 0x2e1b2138, 0x4d2c6dfc, 0x53380d13, 0x650a7354, 0x766a0abb, 0x81c2c92e, 0x92722c85,
    0xa2bfe8a1, 0xa81a664b, 0xc24b8b70, 0xc76c51a3, 0xd192e819, 0xd6990624, 0xf40e3585, 0x106aa070,
    0x19a4c116, 0x1e376c08, 0x2748774c, 0x34b0bcb5, 0x391c0cb3, 0x4ed8aa4a, 0x5b9cca4f, 0x682e6ff3,
    0x748f82ee, 0x78a5636f, 0x84c87814, 0x8cc70208, 0x90befffa, 0xa4506ceb, 0xbef9a3f7, 0xc67178f2]
def K (i : Nat) : W := BitVec.ofNat 32 (Kl.getD i 0)
def IVl : List Nat := [0x6a09e667, 0xbb67ae85, 0x3c6ef372, 0xa54ff53a, 0x510e527f, 0x9b05688c, 0x1f83d9ab, 0x5be0cd19]
def IV (i : Nat) : W := BitVec.ofNat 32 (IVl.getD i 0)

/-- A block's word of four bytes. -/
def word (p : Nat → UInt8) (i : Nat) : W :=
  (BitVec.ofNat 32 (p (4 * i)).toNat <<< 24) ||| (BitVec.ofNat 32 (p (4 * i + 1)).toNat <<< 16) ||| (BitVec.ofNat 32 (p (4 * i + 2)).toNat <<< 8) ||| BitVec.ofNat 32 (p (4 * i + 3)).toNat

/-- The words of a block's rounds. -/
def sched (p : Nat → UInt8) (i : Nat) : W :=
  if _h : i < 16 then word p i else sched p (i - 16) + sg0 (sched p (i - 15)) + sched p (i - 7) + sg1 (sched p (i - 2))
termination_by i
theorem sched_low (p : Nat → UInt8) {i : Nat} (h : i < 16) : sched p i = word p i := by rw [sched, dif_pos h]
theorem sched_high (p : Nat → UInt8) {i : Nat} (h : ¬ i < 16) : sched p i = sched p (i - 16) + sg0 (sched p (i - 15)) + sched p (i - 7) + sg1 (sched p (i - 2)) := by rw [sched, dif_neg h]

theorem word_congr {p q : Nat → UInt8} (h : ∀ j, j < 64 → p j = q j) {i : Nat} (hi : i < 16) : word p i = word q i := by
  unfold word; rw [h (4 * i) (by omega), h (4 * i + 1) (by omega), h (4 * i + 2) (by omega), h (4 * i + 3) (by omega)]
theorem sched_congr {p q : Nat → UInt8} (h : ∀ j, j < 64 → p j = q j) (i : Nat) : sched p i = sched q i := by
  induction i using Nat.strongRecOn with
  | _ i ih =>
    by_cases hi : i < 16
    · rw [sched_low _ hi, sched_low _ hi, word_congr h hi]
    · rw [sched_high _ hi, sched_high _ hi, ih (i - 16) (by omega), ih (i - 15) (by omega), ih (i - 7) (by omega), ih (i - 2) (by omega)]

def t1 (s : Nat → W) (k x : W) : W := s 7 + S1 (s 4) + ch (s 4) (s 5) (s 6) + k + x
def t2 (s : Nat → W) : W := S0 (s 0) + maj (s 0) (s 1) (s 2)
def rnd (s : Nat → W) (k x : W) : Nat → W
  | 0 => t1 s k x + t2 s
  | 1 => s 0
  | 2 => s 1
  | 3 => s 2
  | 4 => s 3 + t1 s k x
  | 5 => s 4
  | 6 => s 5
  | _ => s 6
def st (r x : Nat → W) : Nat → Nat → W
  | 0 => r
  | i + 1 => rnd (st r x i) (K i) (x i)
theorem st_congr {r x y : Nat → W} (h : ∀ j, x j = y j) (i : Nat) : st r x i = st r y i := by
  induction i with
  | zero => rfl
  | succ i ih => simp only [st, ih, h]
def block (r : Nat → W) (p : Nat → UInt8) : Nat → W := fun j => r j + st r (sched p) 64 j
theorem block_congr (r : Nat → W) {p q : Nat → UInt8} (h : ∀ j, j < 64 → p j = q j) : block r p = block r q := by
  unfold block; rw [st_congr (sched_congr h)]

theorem rnd_congr {s s' : Nat → W} (h : ∀ j, j < 8 → s j = s' j) (k x : W) : ∀ j, j < 8 → rnd s k x j = rnd s' k x j := by
  intro j hj
  have e0 := h 0 (by decide); have e1 := h 1 (by decide); have e2 := h 2 (by decide); have e3 := h 3 (by decide)
  have e4 := h 4 (by decide); have e5 := h 5 (by decide); have e6 := h 6 (by decide); have e7 := h 7 (by decide)
  match j, hj with
  | 0, _ => simp only [rnd, t1, t2, e0, e1, e2, e4, e5, e6, e7]
  | 1, _ => exact e0
  | 2, _ => exact e1
  | 3, _ => exact e2
  | 4, _ => simp only [rnd, t1, e3, e4, e5, e6, e7]
  | 5, _ => exact e4
  | 6, _ => exact e5
  | 7, _ => exact e6
theorem st_congr8 {r r' : Nat → W} (h : ∀ j, j < 8 → r j = r' j) (x : Nat → W) (i : Nat) : ∀ j, j < 8 → st r x i j = st r' x i j := by
  induction i with
  | zero => exact h
  | succ i ih => exact rnd_congr ih _ _

/-- The byte at a place. -/
def at_ (l : List UInt8) (j : Nat) : UInt8 := l.getD j 0
theorem at_append_left {l m : List UInt8} {j : Nat} (h : j < l.length) : at_ (l ++ m) j = at_ l j := by
  unfold at_; rw [List.getD_eq_getElem?_getD, List.getD_eq_getElem?_getD, List.getElem?_append_left h]
theorem at_drop (l : List UInt8) (n j : Nat) : at_ (l.drop n) j = at_ l (n + j) := by
  unfold at_; rw [List.getD_eq_getElem?_getD, List.getD_eq_getElem?_getD, List.getElem?_drop]

/-- The register behind so many blocks of bytes. -/
def foldN (r : Nat → W) (l : List UInt8) : Nat → Nat → W
  | 0 => r
  | n + 1 => block (foldN r l n) (fun j => at_ l (64 * n + j))
theorem foldN_append (r : Nat → W) (l m : List UInt8) : ∀ n, 64 * n ≤ l.length → foldN r (l ++ m) n = foldN r l n
  | 0, _ => rfl
  | n + 1, h => by
    simp only [foldN]
    rw [foldN_append r l m n (by omega)]
    exact block_congr _ fun j hj => at_append_left (by omega)
theorem foldN_drop (r : Nat → W) (l : List UInt8) (a : Nat) : ∀ b, foldN (foldN r l a) (l.drop (64 * a)) b = foldN r l (a + b)
  | 0 => rfl
  | b + 1 => by
    show block (foldN (foldN r l a) (l.drop (64 * a)) b) _ = block (foldN r l (a + b)) _
    rw [foldN_drop r l a b]
    refine block_congr _ fun j _ => ?_
    show at_ (l.drop (64 * a)) (64 * b + j) = at_ l (64 * (a + b) + j)
    rw [at_drop, Nat.mul_add, Nat.add_assoc]

/-- The length's eight bytes, the highest first. -/
def lenBytes (n : Nat) : List UInt8 := (List.range 8).map fun i => UInt8.ofNat (n * 8 / 2 ^ (56 - 8 * i))
/-- How many noughts. -/
def zeros (n : Nat) : Nat := (119 - n % 64) % 64
def tailOf (n : Nat) : List UInt8 := 0x80 :: (List.replicate (zeros n) 0 ++ lenBytes n)
def pad (l : List UInt8) : List UInt8 := l ++ tailOf l.length
theorem pad_length (l : List UInt8) : (pad l).length = l.length + 1 + zeros l.length + 8 := by simp [pad, tailOf, lenBytes]; omega
theorem pad_mod (l : List UInt8) : (pad l).length % 64 = 0 := by rw [pad_length]; unfold zeros; omega

def bytesOf (r : Nat → W) : List UInt8 := (List.range 32).map fun i => UInt8.ofNat ((r (i / 4)).toNat / 2 ^ (24 - 8 * (i % 4)))
theorem bytesOf_length (r : Nat → W) : (bytesOf r).length = 32 := by simp [bytesOf]
theorem bytesOf_congr {r s : Nat → W} (h : ∀ j, j < 8 → r j = s j) : bytesOf r = bytesOf s := by
  unfold bytesOf
  apply List.map_congr_left
  intro i hi
  rw [h (i / 4) (by have := List.mem_range.1 hi; omega)]

def sum (l : List UInt8) : List UInt8 := bytesOf (foldN IV (pad l) ((pad l).length / 64))
theorem sum_length (l : List UInt8) : (sum l).length = 32 := bytesOf_length _

/-- The register behind all full blocks. -/
def reg (l : List UInt8) : Nat → W := foldN IV l (l.length / 64)
def restOf (l : List UInt8) : List UInt8 := l.drop (64 * (l.length / 64))
theorem restOf_length (l : List UInt8) : (restOf l).length = l.length % 64 := by unfold restOf; rw [List.length_drop]; omega
/-- The sum out of the register and the rest. -/
theorem sum_of_reg (l : List UInt8) : sum l = bytesOf (foldN (reg l) (restOf l ++ tailOf l.length) ((restOf l ++ tailOf l.length).length / 64)) := by
  have h1 : restOf l ++ tailOf l.length = (pad l).drop (64 * (l.length / 64)) := by
    unfold pad restOf; rw [List.drop_append_of_le_length (by omega)]
  have h2 : reg l = foldN IV (pad l) (l.length / 64) := (foldN_append IV l _ _ (by omega)).symm
  rw [h1, h2, foldN_drop]
  unfold sum
  congr 2
  rw [List.length_drop]
  have := pad_mod l
  have : (pad l).length ≥ l.length := by rw [pad_length]; omega
  omega
/-- More bytes: the blocks of the rest and the new ones. -/
theorem reg_append (l m : List UInt8) : reg (l ++ m) = foldN (reg l) (restOf l ++ m) ((restOf l ++ m).length / 64) := by
  have h1 : restOf l ++ m = (l ++ m).drop (64 * (l.length / 64)) := by
    unfold restOf; rw [List.drop_append_of_le_length (by omega)]
  have h2 : reg l = foldN IV (l ++ m) (l.length / 64) := (foldN_append IV l _ _ (by omega)).symm
  rw [h1, h2, foldN_drop]
  unfold reg
  congr 1
  rw [List.length_drop, List.length_append]
  omega
theorem restOf_append (l m : List UInt8) : restOf (l ++ m) = (restOf l ++ m).drop (64 * ((restOf l ++ m).length / 64)) := by
  have h1 : restOf l ++ m = (l ++ m).drop (64 * (l.length / 64)) := by
    unfold restOf; rw [List.drop_append_of_le_length (by omega)]
  rw [h1, List.drop_drop]
  unfold restOf
  congr 1
  rw [List.length_drop, List.length_append]
  omega

def xorAll (c : UInt8) (l : List UInt8) : List UInt8 := l.map (· ^^^ c)
def keyOf (k : List UInt8) : List UInt8 := if 64 < k.length then sum k else k
def keyBlock (k : List UInt8) : List UInt8 := keyOf k ++ List.replicate (64 - (keyOf k).length) 0
def mac (k m : List UInt8) : List UInt8 := sum (xorAll 0x5c (keyBlock k) ++ sum (xorAll 0x36 (keyBlock k) ++ m))
theorem mac_length (k m : List UInt8) : (mac k m).length = 32 := sum_length _
theorem keyOf_length (k : List UInt8) : (keyOf k).length ≤ 64 := by
  unfold keyOf; split
  · rw [sum_length]; omega
  · omega
theorem keyBlock_length (k : List UInt8) : (keyBlock k).length = 64 := by
  have := keyOf_length k
  unfold keyBlock; rw [List.length_append, List.length_replicate]; omega
theorem mac_sum (k m : List UInt8) (h : 64 < k.length) : mac (sum k) m = mac k m := by
  have e : keyBlock (sum k) = keyBlock k := by
    unfold keyBlock keyOf; rw [if_pos h, if_neg (by rw [sum_length]; omega)]
  unfold mac; rw [e]
theorem mac_zeros (n : Nat) (h : n ≤ 64) (m : List UInt8) : mac (List.replicate n 0) m = mac [] m := by
  have e : keyBlock (List.replicate n 0) = keyBlock [] := by
    unfold keyBlock keyOf
    rw [if_neg (by simp; omega), if_neg (by simp)]
    simp only [List.length_replicate, List.length_nil, List.nil_append, Nat.sub_zero]
    rw [List.replicate_append_replicate]; congr 1; omega
  unfold mac; rw [e]

/-! For reckoning: the same over lists and eight words. -/
def schedL (p : Nat → UInt8) : Nat → List W   -- the last first
  | 0 => []
  | i + 1 => let l := schedL p i; (if i < 16 then word p i else l.getD 15 0 + sg0 (l.getD 14 0) + l.getD 6 0 + sg1 (l.getD 1 0)) :: l
theorem schedL_get (p : Nat → UInt8) : ∀ n j, j < n → (schedL p n).getD j 0 = sched p (n - 1 - j)
  | n + 1, 0, _ => by
    simp only [schedL, List.getD_cons_zero, Nat.add_sub_cancel, Nat.sub_zero]
    by_cases h : n < 16
    · rw [if_pos h, sched_low _ h]
    · rw [if_neg h, sched_high _ h, schedL_get p n 15 (by omega), schedL_get p n 14 (by omega), schedL_get p n 6 (by omega), schedL_get p n 1 (by omega)]
      rfl
  | n + 1, j + 1, h => by
    simp only [schedL, List.getD_cons_succ]
    rw [schedL_get p n j (by omega)]; congr 1; omega

/-- The rounds, with the words at hand: eight words, a list of keys, a list of words (both in order). -/
def go8 : List Nat → List W → W → W → W → W → W → W → W → W → List W
  | k :: ks, x :: xs, a, b, c, d, e, f, g, h =>
    let t := h + S1 e + ch e f g + BitVec.ofNat 32 k + x
    go8 ks xs (t + (S0 a + maj a b c)) a b c (d + t) e f g
  | _, _, a, b, c, d, e, f, g, h => [a, b, c, d, e, f, g, h]
theorem go8_st (r x : Nat → W) : ∀ (ks : List Nat) (xs : List W) (i : Nat), (∀ j, j < ks.length → ks.getD j 0 = Kl.getD (i + j) 0) → (∀ j, j < xs.length → xs.getD j 0 = x (i + j)) → ks.length = xs.length →
    go8 ks xs (st r x i 0) (st r x i 1) (st r x i 2) (st r x i 3) (st r x i 4) (st r x i 5) (st r x i 6) (st r x i 7) = (List.range 8).map (st r x (i + ks.length))
  | [], [], i, _, _, _ => by rfl
  | k :: ks, y :: ys, i, hk, hx, hl => by
    have h0 := hk 0 (by simp)
    have h1 := hx 0 (by simp)
    simp only [List.getD_cons_zero, Nat.add_zero] at h0 h1
    have ih := go8_st r x ks ys (i + 1) (fun j hj => by have := hk (j + 1) (by simpa using hj); simp only [List.getD_cons_succ] at this; rw [this]; congr 1; omega)
      (fun j hj => by have := hx (j + 1) (by simpa using hj); simp only [List.getD_cons_succ] at this; rw [this]; congr 1; omega) (by simpa using hl)
    rw [List.length_cons, show i + (ks.length + 1) = i + 1 + ks.length by omega, ← ih]
    subst h0 h1
    rfl
def block8 (r : List W) (p : Nat → UInt8) : List W :=
  let v := go8 Kl (schedL p 64).reverse (r.getD 0 0) (r.getD 1 0) (r.getD 2 0) (r.getD 3 0) (r.getD 4 0) (r.getD 5 0) (r.getD 6 0) (r.getD 7 0)
  [r.getD 0 0 + v.getD 0 0, r.getD 1 0 + v.getD 1 0, r.getD 2 0 + v.getD 2 0, r.getD 3 0 + v.getD 3 0, r.getD 4 0 + v.getD 4 0, r.getD 5 0 + v.getD 5 0, r.getD 6 0 + v.getD 6 0, r.getD 7 0 + v.getD 7 0]
theorem schedL_length (p : Nat → UInt8) : ∀ n, (schedL p n).length = n
  | 0 => rfl
  | n + 1 => by simp [schedL, schedL_length p n]
theorem block8_eq (r : Nat → W) (p : Nat → UInt8) : block8 ((List.range 8).map r) p = (List.range 8).map (block r p) := by
  have h := go8_st r (sched p) Kl (schedL p 64).reverse 0 (fun j _ => by rw [Nat.zero_add]) (fun j hj => by
    rw [List.length_reverse, schedL_length] at hj
    rw [List.getD_eq_getElem?_getD, List.getElem?_reverse (by rw [schedL_length]; exact hj), ← List.getD_eq_getElem?_getD, schedL_length, schedL_get p 64 _ (by omega), Nat.zero_add]
    congr 1; omega) (by rw [List.length_reverse, schedL_length]; rfl)
  have e : (List.range 8).map r = [r 0, r 1, r 2, r 3, r 4, r 5, r 6, r 7] := rfl
  rw [e]
  unfold block8
  simp only [List.getD_cons_zero, List.getD_cons_succ]
  have h' : go8 Kl (schedL p 64).reverse (r 0) (r 1) (r 2) (r 3) (r 4) (r 5) (r 6) (r 7) = (List.range 8).map (st r (sched p) 64) := h
  rw [h']
  rfl
def fold8 (l : List UInt8) : Nat → List W
  | 0 => (List.range 8).map IV
  | n + 1 => block8 (fold8 l n) (fun j => at_ l (64 * n + j))
theorem fold8_eq (l : List UInt8) : ∀ n, fold8 l n = (List.range 8).map (foldN IV l n)
  | 0 => rfl
  | n + 1 => by show block8 (fold8 l n) _ = _; rw [fold8_eq l n, block8_eq]; rfl
def sum8 (l : List UInt8) : List UInt8 :=
  let q := pad l
  let r := fold8 q (q.length / 64)
  (List.range 32).map fun i => UInt8.ofNat ((r.getD (i / 4) 0).toNat / 2 ^ (24 - 8 * (i % 4)))
theorem sum8_eq (l : List UInt8) : sum8 l = sum l := by
  unfold sum8 sum bytesOf
  simp only [fold8_eq]
  apply List.map_congr_left
  intro i hi
  have : i / 4 < 8 := by have := List.mem_range.1 hi; omega
  congr 2
  rw [List.getD_eq_getElem?_getD, List.getElem?_map, List.getElem?_range this]; rfl
end Sha
