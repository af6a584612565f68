/-
  Words of 32 bits as the model's numbers; rows of them; bytes.
-/
import Derived.Test.YtmifegjmmlipbaaDoorZ
import Derived.Test.YtmifegjmmlipbaaDoorH
import Derived.Laws.BitsAllLaws
namespace Go.Rh
open Go.RowKit Sha

/-- A word as the model's number. -/
def u (x : W) : Int := (x.toNat : Int)
/-- A byte as the model's number. -/
def ub (x : UInt8) : Int := (x.toNat : Int)
theorem u_ge (x : W) : 0 ≤ u x := by unfold u; omega
theorem u_lt (x : W) : u x < 4294967296 := by have := x.isLt; unfold u; omega
theorem ub_ge (x : UInt8) : 0 ≤ ub x := by unfold ub; omega
theorem ub_lt (x : UInt8) : ub x < 256 := by have := x.toNat_lt; unfold ub; omega

theorem ofNat_self (x : W) : BitVec.ofNat 32 x.toNat = x := by simp
theorem ofInt_u (x : W) : BitVec.ofInt 32 (u x) = x := by
  unfold u; rw [BitVec.ofInt_natCast]; exact ofNat_self x
theorem wrap_nat (n : Nat) : IntKind.u32.wrap (n : Int) = u (BitVec.ofNat 32 n) := by
  rw [IntKind.wrap_u32]; unfold u; simp
theorem u_xor (x y : W) : bits .xor .u32 (u x) (u y) = u (x ^^^ y) := by
  show IntKind.u32.wrap ((BitVec.ofInt 32 (u x) ^^^ BitVec.ofInt 32 (u y)).toNat : Int) = _
  rw [ofInt_u, ofInt_u, wrap_nat, ofNat_self]
theorem u_and (x y : W) : bits .and .u32 (u x) (u y) = u (x &&& y) := by
  show IntKind.u32.wrap ((BitVec.ofInt 32 (u x) &&& BitVec.ofInt 32 (u y)).toNat : Int) = _
  rw [ofInt_u, ofInt_u, wrap_nat, ofNat_self]
theorem u_or (x y : W) : bits .or .u32 (u x) (u y) = u (x ||| y) := by
  show IntKind.u32.wrap ((BitVec.ofInt 32 (u x) ||| BitVec.ofInt 32 (u y)).toNat : Int) = _
  rw [ofInt_u, ofInt_u, wrap_nat, ofNat_self]
theorem u_not (x : W) : bits .xor .u32 (4294967295 : Int) (u x) = u (~~~x) := by
  have e : (4294967295 : Int) = u (BitVec.allOnes 32) := rfl
  rw [e, u_xor, BitVec.allOnes_xor]
theorem u_add (x y : W) : IntKind.u32.wrap (u x + u y) = u (x + y) := by
  have e : u x + u y = ((x.toNat + y.toNat : Nat) : Int) := by unfold u; simp
  rw [e, wrap_nat]
  exact congrArg u (BitVec.eq_of_toNat_eq (by simp))
theorem u_shr (x : W) (k : Nat) : u x / 2 ^ k = u (x >>> k) := by
  unfold u
  rw [BitVec.toNat_ushiftRight, Nat.shiftRight_eq_div_pow]
  simp
theorem u_shl (x : W) (k : Nat) : IntKind.u32.wrap (u x * 2 ^ k) = u (x <<< k) := by
  have e : u x * 2 ^ k = ((x.toNat * 2 ^ k : Nat) : Int) := by unfold u; simp
  rw [e, wrap_nat]; congr 1
  apply BitVec.eq_of_toNat_eq
  rw [BitVec.toNat_shiftLeft, BitVec.toNat_ofNat, Nat.shiftLeft_eq]
theorem u_wrap (x : W) : IntKind.u32.wrap (u x) = u x := by
  exact (wrap_nat x.toNat).trans (congrArg u (ofNat_self x))
theorem ub_u32 (x : UInt8) : IntKind.u32.wrap (ub x) = u (BitVec.ofNat 32 x.toNat) := wrap_nat _
theorem ub_wrap (x : UInt8) : IntKind.u8.wrap (ub x) = ub x := by
  have := ub_ge x; have := ub_lt x
  rw [IntKind.wrap_u8]; omega
theorem ub_xor (x y : UInt8) : bits .xor .u8 (ub x) (ub y) = ub (x ^^^ y) := by
  unfold ub
  rw [u8_xor_nat _ _ x.toNat_lt y.toNat_lt, UInt8.toNat_xor]
theorem ub_of (n : Nat) : IntKind.u8.wrap (n : Int) = ub (UInt8.ofNat n) := by
  rw [IntKind.wrap_u8]; unfold ub; rw [UInt8.toNat_ofNat']; simp
theorem ub_inj {x y : UInt8} (h : ub x = ub y) : x = y := by
  unfold ub at h; exact UInt8.toNat_inj.1 (by omega)

theorem u_add' (x y : W) : (u x + u y) % 4294967296 = u (x + y) := by rw [← u_add, IntKind.wrap_u32]
theorem u_shl' (x : W) (k : Nat) : u x * (2 : Int) ^ k % (4294967296 : Int) = u (x <<< k) := by rw [← u_shl, IntKind.wrap_u32]
theorem u_shl8 (x : W) : u x * (256 : Int) % (4294967296 : Int) = u (x <<< 8) := u_shl' x 8
theorem u_shl16 (x : W) : u x * (65536 : Int) % (4294967296 : Int) = u (x <<< 16) := u_shl' x 16
theorem u_shl24 (x : W) : u x * (16777216 : Int) % (4294967296 : Int) = u (x <<< 24) := u_shl' x 24
theorem u_shr3 (x : W) : u x / (8 : Int) = u (x >>> 3) := u_shr x 3
theorem u_shr8 (x : W) : u x / (256 : Int) = u (x >>> 8) := u_shr x 8
theorem u_shr10 (x : W) : u x / (1024 : Int) = u (x >>> 10) := u_shr x 10
theorem u_shr16 (x : W) : u x / (65536 : Int) = u (x >>> 16) := u_shr x 16
theorem u_shr24 (x : W) : u x / (16777216 : Int) = u (x >>> 24) := u_shr x 24
theorem u_mod (x : W) : u x % (4294967296 : Int) = u x := by have := u_ge x; have := u_lt x; omega
theorem ub_mod (x : UInt8) : ub x % 256 = ub x := by have := ub_ge x; have := ub_lt x; omega
theorem ub_word (x : UInt8) : ub x % 4294967296 = u (BitVec.ofNat 32 x.toNat) := by rw [← ub_u32, IntKind.wrap_u32]
theorem u_notIf (x : W) : bits .xor .u32 (if IntKind.u32.signed = true then -1 else IntKind.u32.max) (u x) = u (~~~x) := u_not x
theorem u_not' (x : W) : bits .xor .u32 (4294967295 : Int) (u x) = u (~~~x) := u_not x
/-- A word's byte. -/
theorem u_byte (x : W) : u x % 256 = ub (UInt8.ofNat x.toNat) := by
  have e := ub_of x.toNat
  rw [IntKind.wrap_u8] at e
  exact e

/-- Rows of words, of bytes. -/
def U32 (n : Nat) (r : Nat → W) : Array Value := vals .u32 n fun j => u (r j)
def B8 (n : Nat) (l : List UInt8) : Array Value := vals .u8 n fun j => ub (at_ l j)
theorem U32_size (n : Nat) (r : Nat → W) : (U32 n r).size = n := by simp [U32]
theorem B8_size (n : Nat) (l : List UInt8) : (B8 n l).size = n := by simp [B8]
theorem U32_congr {n : Nat} {r s : Nat → W} (h : ∀ j, j < n → r j = s j) : U32 n r = U32 n s := vals_congr _ _ fun j hj => by rw [h j hj]
theorem U32_get {n : Nat} (r : Nat → W) {j : Nat} (h : j < n) : (U32 n r)[j]? = some (.int .u32 (u (r j))) := vals_get _ _ h
theorem B8_get {n : Nat} (l : List UInt8) {j : Nat} (h : j < n) : (B8 n l)[j]? = some (.int .u8 (ub (at_ l j))) := vals_get _ _ h

/-- A list of bytes as a string. -/
def S8 (l : List UInt8) : ByteArray := ⟨l.toArray⟩
theorem S8_size (l : List UInt8) : (S8 l).size = l.length := by simp [S8, ByteArray.size]
theorem at_get {l : List UInt8} {j : Nat} (h : j < l.length) : at_ l j = l[j] := by unfold at_; rw [List.getD_eq_getElem?_getD, List.getElem?_eq_getElem h]; rfl
theorem run_index_S8 {P : Program} {T : TypeId} (hT : P.underlying T = some .string) (l : List UInt8) (k : IntKind) (i : Int) (h0 : 0 ≤ i) (h1 : i < l.length) (w : World) :
    (Instr.index T (.string (S8 l)) (.int k i)).run P w = .ok (.int .u8 (ub (at_ l i.toNat))) w := by
  have hj : i.toNat < l.length := by omega
  have hsz : i.toNat < (S8 l).size := by rw [S8_size]; exact hj
  have h2 : (S8 l)[i.toNat]? = some l[i.toNat] := by
    rw [getElem?_pos (S8 l) i.toNat hsz]
    rfl
  unfold Instr.index
  simp only [asIntOf, Sem.run_bind, run_underlying hT w, Sem.run_pure, Result.andThen_ok, if_pos h0, h2]
  rw [at_get hj]; rfl

theorem or_add (x y : W) (m : Nat) (hm : m < 32) (h : y.toNat < 2 ^ m) : (x <<< m) ||| y = (x <<< m) + y := by
  rw [BitVec.add_eq_or_of_and_eq_zero]
  apply BitVec.eq_of_getLsbD_eq
  intro i hi
  rw [BitVec.getLsbD_and, BitVec.getLsbD_shiftLeft]
  by_cases hlt : i < m
  · simp [hlt]
  · have : y.getLsbD i = false := by
      rw [BitVec.getLsbD]
      exact Nat.testBit_lt_two_pow (Nat.lt_of_lt_of_le h (Nat.pow_le_pow_right (by decide) (by omega)))
    simp [this]
theorem word_add (p : Nat → UInt8) (i : Nat) :
    (BitVec.ofNat 32 (p (4 * i)).toNat <<< 24) + (BitVec.ofNat 32 (p (4 * i + 1)).toNat <<< 16) + (BitVec.ofNat 32 (p (4 * i + 2)).toNat <<< 8) + BitVec.ofNat 32 (p (4 * i + 3)).toNat = word p i := by
  unfold word
  have b : ∀ x : UInt8, (BitVec.ofNat 32 x.toNat).toNat = x.toNat := fun x => by rw [BitVec.toNat_ofNat]; exact Nat.mod_eq_of_lt (by have := x.toNat_lt; omega)
  have s : ∀ (x : UInt8) (m : Nat), m ≤ 24 → (BitVec.ofNat 32 x.toNat <<< m).toNat = x.toNat * 2 ^ m := fun x m hm => by
    rw [BitVec.toNat_shiftLeft, b, Nat.shiftLeft_eq]
    refine Nat.mod_eq_of_lt ?_
    have h1 : x.toNat * 2 ^ m ≤ 255 * 2 ^ m := Nat.mul_le_mul_right _ (by have := x.toNat_lt; omega)
    have h2 : 2 ^ m ≤ 2 ^ 24 := Nat.pow_le_pow_right (by decide) hm
    have h3 : 255 * 2 ^ m ≤ 255 * 2 ^ 24 := Nat.mul_le_mul_left _ h2
    omega
  have x0 := (p (4 * i)).toNat_lt; have x1 := (p (4 * i + 1)).toNat_lt; have x2 := (p (4 * i + 2)).toNat_lt; have x3 := (p (4 * i + 3)).toNat_lt
  have e3 : (BitVec.ofNat 32 (p (4 * i + 2)).toNat <<< 8) ||| BitVec.ofNat 32 (p (4 * i + 3)).toNat = (BitVec.ofNat 32 (p (4 * i + 2)).toNat <<< 8) + BitVec.ofNat 32 (p (4 * i + 3)).toNat :=
    or_add _ _ 8 (by decide) (by rw [b]; omega)
  have e2 : (BitVec.ofNat 32 (p (4 * i + 1)).toNat <<< 16) ||| ((BitVec.ofNat 32 (p (4 * i + 2)).toNat <<< 8) + BitVec.ofNat 32 (p (4 * i + 3)).toNat) = (BitVec.ofNat 32 (p (4 * i + 1)).toNat <<< 16) + ((BitVec.ofNat 32 (p (4 * i + 2)).toNat <<< 8) + BitVec.ofNat 32 (p (4 * i + 3)).toNat) :=
    or_add _ _ 16 (by decide) (by rw [BitVec.toNat_add, s _ 8 (by decide), b]; omega)
  rw [BitVec.or_assoc, BitVec.or_assoc, e3, e2, or_add _ _ 24 (by decide) (by rw [BitVec.toNat_add, BitVec.toNat_add, s _ 8 (by decide), s _ 16 (by decide), b]; omega)]
  rw [BitVec.add_assoc, BitVec.add_assoc]
end Go.Rh
